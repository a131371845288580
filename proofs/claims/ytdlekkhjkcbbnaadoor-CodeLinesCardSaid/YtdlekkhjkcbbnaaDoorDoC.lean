/-
  Contract: CodeLines.
-/
import Derived.Test.YtdlekkhjkcbbnaaDoorCoY
import Derived.Test.YtdlekkhjkcbbnaaDoorCoQ
set_option linter.unusedVariables false
set_option linter.unusedSimpArgs false
set_option maxRecDepth 8000
set_option maxHeartbeats 4000000
namespace Go.Proofs.YtdlekkhjkcbbnaaDoor
open Go.Ab Go.Id Go.Wo Go

theorem format_ok {p : Prg} (h : OkP p) : formatP p = (textS p, 0) := by
  unfold formatP
  rw [checkS_ok h]; rfl
theorem cnt_ok {p : Prg} (h : OkP p) : Cnt p := ⟨by have := h.code; omega, by have := h.strs; omega⟩

/-! ### plain -/

def ascii (l : Bytes) : Prop := ∀ c ∈ l, c.toNat < 128
theorem ascii_app {a b : Bytes} (ha : ascii a) (hb : ascii b) : ascii (a ++ b) := fun c hc => (List.mem_append.1 hc).elim (ha c) (hb c)
theorem ascii_flat {α : Type} {f : α → Bytes} {l : List α} (h : ∀ x ∈ l, ascii (f x)) : ascii (l.flatMap f) := fun c hc => by
  obtain ⟨x, hx, hc⟩ := List.mem_flatMap.1 hc
  exact h x hx c hc
theorem sim_ascii {c : UInt8} (h : simB c = true) : c.toNat < 128 := by
  simp only [simB, Bool.and_eq_true, decide_eq_true_eq, Bool.not_eq_true', decide_eq_false_iff_not] at h
  omega
theorem itoa_ascii (n : Int) : ascii (Lib.itoa n) := fun c hc => by
  have := itoa_bare n
  unfold bareB at this
  rw [Bool.and_eq_true] at this
  exact sim_ascii (List.all_eq_true.1 this.1 c hc)
theorem opT_ascii (l : UInt8) (n : Int) : ascii (opT l n) := by
  unfold opT
  split
  · exact ascii_app (a := [114]) (by unfold ascii; decide) (itoa_ascii n)
  · exact itoa_ascii n
theorem opsT_ascii : ∀ (ls : Bytes) (ns : List Int), ∀ w ∈ opsT ls ns, ascii w
  | [], _ => by intro w hw; simp [opsT] at hw
  | _ :: _, [] => by intro w hw; simp [opsT] at hw
  | l :: ls, n :: ns => by
    intro w hw
    simp only [opsT, List.mem_cons] at hw
    rcases hw with rfl | hw
    · exact opT_ascii l n
    · exact opsT_ascii ls ns w hw
theorem name_ascii : ∀ k, k < 13 → ascii (nameS k) := by
  have : ∀ k, k < 13 → (nameS k).all (fun c => decide (c.toNat < 128)) = true := by decide
  intro k hk c hc
  exact of_decide_eq_true (List.all_eq_true.1 (this k hk) c hc)
theorem line_ascii {x : Ins} (h : 0 ≤ x.op ∧ x.op < 13) : ascii (lineS x) := by
  unfold lineS
  refine ascii_app (ascii_app (name_ascii _ (by omega)) (ascii_flat fun w hw => ascii_app (a := [32]) (by unfold ascii; decide) (opsT_ascii _ _ w hw))) (by unfold ascii; decide)
theorem paths_ascii : ascii (pathsS.flatMap strS) := by
  have : (pathsS.flatMap strS).all (fun c => decide (c.toNat < 128)) = true := by kernel_rfl
  intro c hc
  exact of_decide_eq_true (List.all_eq_true.1 this c hc)
theorem text_ascii {p : Prg} (h : OkP p) (hs : p.strs = pathsS) : ascii (textS p) := by
  unfold textS headS
  rw [hs]
  refine ascii_app (ascii_app (ascii_app (ascii_app (by unfold ascii; decide) (itoa_ascii _)) (by unfold ascii; decide)) paths_ascii) (ascii_flat fun x hx => line_ascii (right_okN (by have := h.code; omega) (h.right x hx)).1)

/-- the lines with their line feeds, as the law cuts them: behind i bytes, the lines, and where the next one begins -/
def scanS (t : Bytes) : Nat → List Bytes × Nat
  | 0 => ([], 0)
  | i + 1 => if t[i]? = some 10 then ((scanS t i).1 ++ [(t.take (i + 1)).drop (scanS t i).2], i + 1) else scanS t i
theorem scan_le (t : Bytes) : ∀ i, (scanS t i).2 ≤ i ∧ (scanS t i).1.length ≤ i
  | 0 => ⟨Nat.le_refl _, Nat.le_refl _⟩
  | i + 1 => by
    obtain ⟨h1, h2⟩ := scan_le t i
    unfold scanS
    split
    · simp; omega
    · exact ⟨by omega, by omega⟩
theorem scan_free (t : Bytes) (n : Nat) : ∀ j, (∀ k, k < j → t[n + k]? ≠ some 10) → scanS t (n + j) = scanS t n
  | 0, _ => rfl
  | j + 1, h => by
    rw [← Nat.add_assoc, scanS, if_neg (h j (by omega)), scan_free t n j fun k hk => h k (by omega)]
theorem scan_text : ∀ (n : Nat) (bs : List Bytes), bs.length = n → ∀ (y : Bytes), (∀ b ∈ bs, ∀ c ∈ b, c ≠ 10) → scanS (textL bs ++ y) (textL bs).length = (bs.map (· ++ [10]), (textL bs).length)
  | 0, bs, hl => by
    intro y _
    rw [List.length_eq_zero_iff.1 hl]
    rfl
  | n0 + 1, bs, hl => by
    intro y h
    rcases List.eq_nil_or_concat bs with rfl | ⟨bs, b, rfl⟩
    · cases hl
    rw [List.concat_eq_append] at *
    have ih := scan_text n0 bs (by simpa using hl)
    have e : textL (bs ++ [b]) = textL bs ++ (b ++ [10]) := by simp [textL]
    have ih' := ih (b ++ [10] ++ y) fun x hx => h x (List.mem_append_left _ hx)
    have hb := h b (List.mem_append_right _ (List.mem_singleton.2 rfl))
    obtain ⟨n, hn⟩ : ∃ n, (textL bs).length = n := ⟨_, rfl⟩
    rw [e, List.append_assoc, List.length_append, List.length_append, List.length_singleton, hn, ← Nat.add_assoc]
    rw [hn] at ih'
    obtain ⟨t, ht⟩ : ∃ t, textL bs ++ (b ++ [10] ++ y) = t := ⟨_, rfl⟩
    rw [ht] at ih' ⊢
    have hfree : scanS t (n + b.length) = scanS t n := scan_free t n b.length fun k hk => by
      rw [← ht, List.getElem?_append_right (by omega), show n + k - (textL bs).length = k by omega, List.append_assoc, List.getElem?_append_left hk, List.getElem?_eq_getElem hk]
      intro h'
      exact hb _ (List.getElem_mem hk) (Option.some.inj h')
    have hten : t[n + b.length]? = some 10 := by
      rw [← ht, List.getElem?_append_right (by omega), show n + b.length - (textL bs).length = b.length by omega, List.append_assoc, List.getElem?_append_right (Nat.le_refl _)]
      simp
    rw [scanS, if_pos hten, hfree, ih']
    have : (List.take (n + b.length + 1) t).drop n = b ++ [10] := by
      rw [← ht, ← hn, ← List.append_assoc, ← List.append_assoc]
      rw [List.take_append_of_le_length (by simp; omega), List.take_of_length_le (by simp; omega), List.append_assoc, List.drop_left]
    rw [this]
    simp
theorem scan_bodies {p : Prg} (h : OkP p) : scanS (textS p) (textS p).length = ((bodies p).map (· ++ [10]), (textS p).length) := by
  have := scan_text _ (bodies p) rfl [] (bodies_nl p)
  rw [List.append_nil, ← text_bodies h] at this
  exact this
theorem flat_text (l : List Bytes) : (l.map (· ++ [10])).flatten = textL l := by
  rw [textL, List.flatMap_def]

theorem codeLines_c (l : Bytes) (at' bad : UInt8) (σ : Heap) (hs : l.length < 2^62) :
    ACalls Tryd.prog 4 [.sl 1 (l.map byteV), .v (.int .u8 at'.toNat), .v (.int .u8 bad.toNat)] σ (fun r σ' => r = bv true ∧ σ' = σ) := by
  refine acalls_awp Tryd.func4 rfl Tryd.call4 Tryd.ntmps4 Tryd.results4 (Nat.le_of_ble_eq_true rfl) fun hw => ?_
  refine awp_then ?_
  simp only [go_sem]
  refine awp_then ?_
  simp only [go_sem]
  refine callN_of (saneC_c _) ?_
  rintro r σ ⟨rfl, rfl⟩
  simp only [go_sem]
  refine awp_then ?_
  simp only [go_sem]
  refine callN_of (made_c l _ hs) ?_
  rintro r σ ⟨p, ⟨hp, _, hps⟩, rfl, rfl⟩
  have hcp := cnt_ok hp
  simp only [go_sem]
  have f1 := format_c p σ hcp.1 hcp.2
  rw [format_ok hp] at f1
  have hlen := textS_len hp
  have hasc := text_ascii hp hps
  have hscan := scan_bodies hp
  have hbad := @parse_bad p hp
  have hbl : textL (bodies p) = textS p := (text_bodies hp).symm
  obtain ⟨t, ht⟩ : ∃ t, textS p = t := ⟨_, rfl⟩
  obtain ⟨bs, hbs⟩ : ∃ bs, bodies p = bs := ⟨_, rfl⟩
  rw [ht] at f1 hlen hasc hscan hbl
  rw [hbs] at hscan hbad hbl
  refine callN_of f1 ?_
  rintro r σ ⟨rfl, rfl⟩
  simp only [go_sem]
  refine awp_then ?_
  simp only [go_sem]
  refine awp_then ?_
  simp only [go_sem]
  refine awp_then ?_
  simp only [go_sem]
  refine aop_range_str (s := ⟨t.toArray⟩) rfl rfl Tryd.ty9 rfl rfl (by simp only [go_sem]) ?_
  simp only [go_sem]
  refine loop_junk (X := Nat × Nat) (fun x => [(1, ⟨true, .v (.int .u8 at'.toNat)⟩), (2, ⟨true, .v (.int .u8 bad.toNat)⟩), (7, ⟨true, sv t⟩), (9, ⟨true, .os σ.length x.2 0 (scanS t x.1).1.length⟩), (10, ⟨true, iv (scanS t x.1).2⟩), (33, ⟨true, .ptr (σ.length + 1) 0 0 0⟩)])
    (fun x => σ ++ [.row x.2 1 ((scanS t x.1).1.map sv), .it 0 ⟨t.toArray⟩ x.1]) (fun x => x.1 ≤ t.length) (fun x => t.length - x.1) (0, 0) (Nat.zero_le _) (by simp only [go_sem, scanS]; simp) (by simp [scanS]) ?_
  rintro ⟨i, g⟩ hi
  simp only at hi
  have hwk : ∀ (g : Nat) (ls : List Bytes) (i : Nat), WfH (σ.length + 2) (σ ++ [.row g 1 (ls.map sv), .it 0 ⟨t.toArray⟩ i]) := fun g ls i o ho => by
    simp only [List.mem_append, List.mem_cons, List.not_mem_nil, or_false] at ho
    rcases ho with ho | rfl | rfl
    · exact AObj.allI_mono (fun i (hi : i < σ.length) => by show i < σ.length + 2; omega) (hw o ho)
    · exact AllIL.mono (fun _ h => h.elim) _ (pure_svL _)
    · trivial
  have tk2 : ∀ (a b : AObj) (junk : Heap), List.take (σ.length + 2) (σ ++ (a :: b :: junk)) = σ ++ [a, b] := fun a b junk => by
    rw [List.take_append, List.take_of_length_le (by omega)]; simp
  by_cases hlt : i < t.length
  · obtain ⟨c, hc⟩ : ∃ c, t[i]? = some c := ⟨_, List.getElem?_eq_getElem hlt⟩
    have hc' : t[i] = c := (List.getElem?_eq_some_iff.1 hc).2
    have hca : c.toNat < 128 := hasc c (List.mem_of_getElem? hc)
    simp only [go_sem]
    refine aop_next_ascii (s := ⟨t.toArray⟩) (i := σ.length + 1) (g := 0) (pos := i) (ty := 0) rfl rfl rfl (by simp only [go_sem]) (by rw [strlen]; exact hlt) (by show (t[i]).toNat < 128; rw [hc']; exact hca) (by simp only [go_sem]) ?_
    simp only [go_sem]
    have hsl := scan_le t i
    have hw1 : IntKind.i64.wrap ((i : Int) + 1) = ((i + 1 : Nat) : Int) := by rw [wrap_i64 (by omega) (by omega)]; omega
    refine ⟨by simpa using hlt, ?_⟩
    rw [hc, Option.getD_some]
    by_cases h10 : c.toNat = 10
    · have hc10 : c = 10 := UInt8.toNat_inj.1 h10
      have hsc : scanS t (i + 1) = ((scanS t i).1 ++ [(t.take (i + 1)).drop (scanS t i).2], i + 1) := by rw [scanS, if_pos (by rw [hc, hc10])]
      rw [if_pos (by omega), hw1, Int.toNat_natCast]
      have hx : AV.v (.string ((ByteArray.mk t.toArray).extract (scanS t i).2 (i + 1))) = sv ((t.take (i + 1)).drop (scanS t i).2) := by
        have := extract_sv ⟨t.toArray⟩ (scanS t i).2 (i + 1)
        rw [List.drop_take]
        exact this
      rw [hx]
      refine ⟨⟨by omega, by simp; omega⟩, ⟨by omega, by omega⟩, (i + 1, g + 1), by simp only; omega, by simp only; omega, ?_⟩
      simp only [hsc, List.length_append, List.length_singleton, List.map_append, List.map_cons, List.map_nil, tk2, true_and]
      have := hwk (g + 1) ((scanS t i).1 ++ [(t.take (i + 1)).drop (scanS t i).2]) (i + 1)
      simp only [List.map_append, List.map_cons, List.map_nil] at this
      exact ⟨⟨by omega, by omega⟩, this⟩
    · have hsc : scanS t (i + 1) = scanS t i := by
        rw [scanS, if_neg]
        rw [hc]
        intro h
        cases h
        exact h10 rfl
      rw [if_neg (by omega)]
      refine ⟨(i + 1, g), by simp only; omega, by simp only; omega, ?_⟩
      simp only [hsc, tk2, true_and]
      exact ⟨⟨by omega, by omega⟩, hwk _ _ _⟩
  · obtain rfl : i = t.length := by omega
    simp only [go_sem]
    refine aop_next_end (s := ⟨t.toArray⟩) (i := σ.length + 1) (g := 0) (pos := t.length) (ty := 0) rfl rfl rfl (by simp only [go_sem]) (by rw [strlen]; omega) (by simp only [go_sem]) ?_
    simp only [go_sem]
    rw [hscan]
    obtain ⟨L, hL⟩ : ∃ L, bs.map (· ++ [10]) = L := ⟨_, rfl⟩
    have hLl : L.length = bs.length := by rw [← hL, List.length_map]
    have hbl1 : bs.length ≤ t.length := by have := (scan_le t t.length).2; rw [hscan] at this; simpa using this
    rw [hL]
    simp only
    refine awp_then ?_
    have hatb := at'.toNat_lt
    have hwa : IntKind.i64.wrap (at'.toNat : Int) = at'.toNat := wrap_i64 (by omega) (by omega)
    have hwl : IntKind.i64.wrap ((L.length : Int) + 1) = ((L.length + 1 : Nat) : Int) := by rw [wrap_i64 (by omega) (by omega)]; omega
    obtain ⟨k, hk⟩ : ∃ k, at'.toNat % (L.length + 1) = k := ⟨_, rfl⟩
    have hkl : k ≤ L.length := by have := Nat.mod_lt at'.toNat (show 0 < L.length + 1 by omega); omega
    have hrem : (at'.toNat : Int).tmod ((L.length + 1 : Nat) : Int) = (k : Int) := by rw [u8_rem _ _ (by omega), hk]
    simp only [go_sem, hwa, hwl, hrem]
    refine ⟨by omega, ?_⟩
    refine awp_then ?_
    simp only [go_sem]
    refine awp_then ?_
    simp only [go_sem]
    have hflat : L.flatten = t := by rw [← hL, flat_text, hbl]
    have hcat : ∀ j, (L.take j).flatten.length + (L.drop j).flatten.length = t.length := fun j => by rw [← List.length_append, ← List.flatten_append, List.take_append_drop, hflat]
    have happ : ∀ a b : Bytes, ({ data := a.toArray } : ByteArray) ++ { data := b.toArray } = ⟨(a ++ b).toArray⟩ := bytes_app
    have hwk2 := hwk g L t.length
    have k0 : ((k : Int) - 0).toNat = k := by omega
    refine ⟨hkl, ?_⟩
    simp only [k0]
    refine loop_junk (X := Nat) (fun j => [(2, ⟨true, .v (.int .u8 bad.toNat)⟩), (9, ⟨true, .os σ.length g 0 L.length⟩), (12, ⟨true, iv k⟩), (13, ⟨true, sv (L.take j).flatten⟩), (59, ⟨true, .os σ.length g 0 k⟩), (60, ⟨true, iv k⟩), (61, ⟨true, iv j⟩)])
      (fun _ => σ ++ [.row g 1 (L.map sv), .it 0 ⟨t.toArray⟩ t.length]) (fun j => j ≤ k) (fun j => k - j) 0 (Nat.zero_le _) (by simp only [go_sem]; simp) rfl ?_
    intro j hj
    by_cases hjl : j < k
    · obtain ⟨x, hx⟩ : ∃ x, L[j]? = some x := ⟨_, List.getElem?_eq_getElem (by omega)⟩
      have hxt : (L.take (j + 1)).flatten = (L.take j).flatten ++ x := by
        rw [List.take_add_one, hx]; simp
      have hc2 := hcat (j + 1)
      rw [hxt, List.length_append] at hc2
      simp only [go_sem, hx, happ, hjl, List.size_toArray]
      refine ⟨by omega, by omega, j + 1, by omega, by omega, ⟨by rw [hxt], inc j (by omega)⟩, take_app2, by omega, hwk2⟩
    · obtain rfl : j = k := by omega
      have hjj : ¬ j < j := by omega
      have hbb := bad.toNat_lt
      obtain ⟨w, hww⟩ : ∃ w, bad.toNat % 7 = w := ⟨_, rfl⟩
      have hw7 : w < 7 := by rw [← hww]; exact Nat.mod_lt _ (by decide)
      have hwm : (bad.toNat : Int).tmod 7 = (w : Int) := by have := u8_rem bad 7 (by decide); rw [hww] at this; exact this
      simp only [go_sem, hjj]
      refine awp_meet (T := Bytes) (fun b => [(9, ⟨true, .os σ.length g 0 L.length⟩), (12, ⟨true, iv j⟩), (13, ⟨true, sv ((L.take j).flatten ++ (b ++ [10]))⟩)])
        (fun b => σ ++ [.row g 1 (L.map sv), .it 0 ⟨t.toArray⟩ t.length, .row 0 1 (badLines.map fun b => sv (b ++ [10]))]) (fun b => b ∈ badLines) ?_ ?_
      · have hc2 := hcat j
        rcases (show w = 0 ∨ w = 1 ∨ w = 2 ∨ w = 3 ∨ w = 4 ∨ w = 5 ∨ w = 6 by omega) with rfl | rfl | rfl | rfl | rfl | rfl | rfl
        · simp only [go_sem, hwm, Int.cast_ofNat_Int, Int.reduceEq]
          refine ⟨by decide, ?_⟩
          try refine ⟨by decide, ?_⟩
          exact ⟨by show (((List.take j L).flatten.toArray.size + 4 : Nat) : Int) ≤ _; rw [List.size_toArray]; omega, [98, 111, 111], by decide, by first | exact congrArg Value.string (bytes_app _ ([98, 111, 111] ++ [10])) | exact congrArg (fun s => AV.v (.string s)) (bytes_app _ ([98, 111, 111] ++ [10])), rfl⟩
        · simp only [go_sem, hwm, Int.cast_ofNat_Int, Int.reduceEq]
          refine ⟨by decide, ?_⟩
          try refine ⟨by decide, ?_⟩
          exact ⟨by show (((List.take j L).flatten.toArray.size + 7 : Nat) : Int) ≤ _; rw [List.size_toArray]; omega, [115, 101, 116, 32, 114, 49], by decide, by first | exact congrArg Value.string (bytes_app _ ([115, 101, 116, 32, 114, 49] ++ [10])) | exact congrArg (fun s => AV.v (.string s)) (bytes_app _ ([115, 101, 116, 32, 114, 49] ++ [10])), rfl⟩
        · simp only [go_sem, hwm, Int.cast_ofNat_Int, Int.reduceEq]
          refine ⟨by decide, ?_⟩
          try refine ⟨by decide, ?_⟩
          exact ⟨by show (((List.take j L).flatten.toArray.size + 16 : Nat) : Int) ≤ _; rw [List.size_toArray]; omega, [97, 100, 100, 32, 114, 49, 32, 114, 50, 32, 114, 51, 32, 114, 52], by decide, by first | exact congrArg Value.string (bytes_app _ ([97, 100, 100, 32, 114, 49, 32, 114, 50, 32, 114, 51, 32, 114, 52] ++ [10])) | exact congrArg (fun s => AV.v (.string s)) (bytes_app _ ([97, 100, 100, 32, 114, 49, 32, 114, 50, 32, 114, 51, 32, 114, 52] ++ [10])), rfl⟩
        · simp only [go_sem, hwm, Int.cast_ofNat_Int, Int.reduceEq]
          refine ⟨by decide, ?_⟩
          try refine ⟨by decide, ?_⟩
          exact ⟨by show (((List.take j L).flatten.toArray.size + 7 : Nat) : Int) ≤ _; rw [List.size_toArray]; omega, [106, 117, 109, 112, 32, 120], by decide, by first | exact congrArg Value.string (bytes_app _ ([106, 117, 109, 112, 32, 120] ++ [10])) | exact congrArg (fun s => AV.v (.string s)) (bytes_app _ ([106, 117, 109, 112, 32, 120] ++ [10])), rfl⟩
        · simp only [go_sem, hwm, Int.cast_ofNat_Int, Int.reduceEq]
          refine ⟨by decide, ?_⟩
          try refine ⟨by decide, ?_⟩
          exact ⟨by show (((List.take j L).flatten.toArray.size + 8 : Nat) : Int) ≤ _; rw [List.size_toArray]; omega, [115, 101, 116, 32, 49, 32, 50], by decide, by first | exact congrArg Value.string (bytes_app _ ([115, 101, 116, 32, 49, 32, 50] ++ [10])) | exact congrArg (fun s => AV.v (.string s)) (bytes_app _ ([115, 101, 116, 32, 49, 32, 50] ++ [10])), rfl⟩
        · simp only [go_sem, hwm, Int.cast_ofNat_Int, Int.reduceEq]
          refine ⟨by decide, ?_⟩
          try refine ⟨by decide, ?_⟩
          exact ⟨by show (((List.take j L).flatten.toArray.size + 5 : Nat) : Int) ≤ _; rw [List.size_toArray]; omega, [110, 111, 112, 32], by decide, by first | exact congrArg Value.string (bytes_app _ ([110, 111, 112, 32] ++ [10])) | exact congrArg (fun s => AV.v (.string s)) (bytes_app _ ([110, 111, 112, 32] ++ [10])), rfl⟩
        · simp only [go_sem, hwm, Int.cast_ofNat_Int, Int.reduceEq]
          refine ⟨by decide, ?_⟩
          try refine ⟨by decide, ?_⟩
          exact ⟨by show (((List.take j L).flatten.toArray.size + 2 : Nat) : Int) ≤ _; rw [List.size_toArray]; omega, [34], by decide, by first | exact congrArg Value.string (bytes_app _ ([34] ++ [10])) | exact congrArg (fun s => AV.v (.string s)) (bytes_app _ ([34] ++ [10])), rfl⟩
      rintro b hb
      obtain ⟨R, hR⟩ : ∃ R, L.drop j = R := ⟨_, rfl⟩
      have hRl : R.length = L.length - j := by rw [← hR, List.length_drop]
      have hb100 : b.length ≤ 100 := (show ∀ b ∈ badLines, b.length ≤ 100 by decide) b hb
      obtain ⟨pre, hpre⟩ : ∃ pre, (L.take j).flatten ++ (b ++ [10]) = pre := ⟨_, rfl⟩
      have hcj := hcat j
      rw [hR] at hcj
      have hpl : pre.length + R.flatten.length ≤ 33101 := by rw [← hpre]; simp only [List.length_append, List.length_singleton]; omega
      rw [hpre]
      refine awp_then ?_
      simp only [go_sem]
      have hlj : ((L.length : Int) - (j : Int)).toNat = R.length := by omega
      have hcat2 : ∀ i, (R.take i).flatten.length + (R.drop i).flatten.length = R.flatten.length := fun i => by rw [← List.length_append, ← List.flatten_append, List.take_append_drop]
      have hjp := hbad hb j (by omega)
      have hend : pre ++ R.flatten = textL (bs.take j) ++ (b ++ [10]) ++ textL (bs.drop j) := by
        rw [← hpre, ← hR, ← hL, ← List.map_take, ← List.map_drop, flat_text, flat_text]
      rw [← hend] at hjp
      refine ⟨hkl, ?_⟩
      simp only [hlj]
      refine loop_junk (X := Nat) (fun i => [(12, ⟨true, iv j⟩), (13, ⟨true, sv (pre ++ (R.take i).flatten)⟩), (78, ⟨true, .os σ.length g j R.length⟩), (79, ⟨true, iv R.length⟩), (80, ⟨true, iv i⟩)])
        (fun _ => σ ++ [.row g 1 (L.map sv), .it 0 ⟨t.toArray⟩ t.length, .row 0 1 (badLines.map fun b => sv (b ++ [10]))]) (fun i => i ≤ R.length) (fun i => R.length - i) 0 (Nat.zero_le _) (by simp only [go_sem]; simp) rfl ?_
      have hwk3 : WfH (σ.length + 3) (σ ++ [.row g 1 (L.map sv), .it 0 ⟨t.toArray⟩ t.length, .row 0 1 (badLines.map fun b => sv (b ++ [10]))]) := fun o ho => by
        simp only [List.mem_append, List.mem_cons, List.not_mem_nil, or_false] at ho
        rcases ho with ho | rfl | rfl | rfl
        · exact AObj.allI_mono (fun i (hi : i < σ.length) => by show i < σ.length + 3; omega) (hw o ho)
        · exact AllIL.mono (fun _ h => h.elim) _ (pure_svL _)
        · trivial
        · exact AllIL.mono (fun _ h => h.elim) _ (pureL_map (f := fun b => sv (b ++ [10])) (fun _ => trivial) badLines)
      intro i hi
      by_cases hil : i < R.length
      · obtain ⟨x, hx⟩ : ∃ x, R[i]? = some x := ⟨_, List.getElem?_eq_getElem (by omega)⟩
        have hx' : L[j + i]? = some x := by rw [← hR, List.getElem?_drop] at hx; exact hx
        have hxt : (R.take (i + 1)).flatten = (R.take i).flatten ++ x := by
          rw [List.take_add_one, hx]; simp
        have hc2 := hcat2 (i + 1)
        rw [hxt, List.length_append] at hc2
        simp only [go_sem, hx', happ, hil, List.size_toArray]
        refine ⟨by omega, by rw [List.length_append]; omega, i + 1, by omega, by omega, ⟨by rw [hxt, List.append_assoc], inc i (by omega)⟩, take_app3, by omega, hwk3⟩
      · obtain rfl : i = R.length := by omega
        have hii : ¬ R.length < R.length := by omega
        simp only [go_sem, hii]
        rw [List.take_length]
        refine awp_then ?_
        simp only [go_sem]
        have hp2 := parse_c (pre ++ R.flatten) (σ ++ [.row g 1 (L.map sv), .it 0 ⟨t.toArray⟩ t.length, .row 0 1 (badLines.map fun b => sv (b ++ [10]))]) (by rw [List.length_append]; omega)
        rw [hjp] at hp2
        refine callN_of hp2 ?_
        rintro r τ ⟨rfl, rfl⟩
        simp only [go_sem, zeroP, Prg.av, codeAV, strsB, List.map_nil]
        refine vcode_sound _ ?_
        have hwj : IntKind.i64.wrap ((j : Int) + 1) = (j : Int) + 1 := wrap_i64 (by omega) (by omega)
        simp only [go_sem, hwj]
        exact retOK_app hw trivial ⟨rfl, rfl⟩
end Go.Proofs.YtdlekkhjkcbbnaaDoor
