/-
  Contracts: code.instruction and what it calls.
  Contracts: the reader of lines (take) and code.Parse.
-/
import Derived.Test.YtdlekkhjkcbbnaaGreatDoorCoD
set_option linter.unusedVariables false
set_option linter.unusedSimpArgs false
set_option maxRecDepth 8000
set_option maxHeartbeats 2000000
namespace Go.Proofs.YtdlekkhjkcbbnaaGreatDoor
open Go.Ab Go.Id Go.Wo Go

def formAV (f : Bytes × Bytes) : AV := .agg [sv f.1, sv f.2]
theorem forms_chunks : chunks 2 13 formsC = formsB.map formAV := by kernel_rfl

@[go_sem] theorem toNat_1 : Int.toNat 1 = 1 := rfl
@[go_sem] theorem toNat_2 : Int.toNat 2 = 2 := rfl
theorem svb_inj (a b : Bytes) : (ByteArray.mk a.toArray = ByteArray.mk b.toArray) = (a = b) := by
  apply propext
  refine ⟨fun h => ?_, fun h => by rw [h]⟩
  have := congrArg (fun b : ByteArray => b.data.toList) h
  simpa using this
theorem isName_c (nm ls w : Bytes) (ws : List Bytes) (i g : Nat) (σ : Heap) (hi : σ[i]? = some (.row g 1 [strsB (w :: ws)])) :
    ACalls Tryz.prog 72 [.agg [sv nm, sv ls], .ptr i g 0 0] σ (fun r σ' => r = bv (decide (nm = w)) ∧ σ' = σ) := by
  refine acalls_go Tryz.func72 rfl Tryz.call72 Tryz.ntmps72 Tryz.results72 (Nat.le_of_ble_eq_true rfl) fun hw => ?_
  have hil := (List.getElem?_eq_some_iff.1 hi).1
  simp only [strsB] at hi
  have hi' : ∀ τ : Heap, (σ ++ τ)[i]? = some (.row g 1 [.sl 1 ((w :: ws).map sv)]) := fun τ => by rw [List.getElem?_append_left hil]; exact hi
  simp only [go_sem]
  refine awp_draw Tryz.mixed (by kernel_rfl) ?_
  simp only [go_sem, hi']
  exact ⟨by omega, retOK_app hw (by simp only [go_sem]) ⟨by simp only [svb_inj], rfl⟩⟩

theorem indexForm_c (w : Bytes) (ws : List Bytes) (i g : Nat) (σ : Heap) (hi : σ[i]? = some (.row g 1 [strsB (w :: ws)])) :
    ACalls Tryz.prog 71 [.sl 2 (formsB.map formAV), .fn (.func 72) [] [.ptr i g 0 0]] σ
      (fun r σ' => r = iv (ixI (fun f => decide (f.1 = w)) formsB) ∧ σ' = σ) := by
  refine acalls_go Tryz.func71 rfl Tryz.call71 Tryz.ntmps71 Tryz.results71 (Nat.le_of_ble_eq_true rfl) fun hw => ?_
  obtain ⟨fs, hfs⟩ : ∃ fs, formsB = fs := ⟨_, rfl⟩
  have hfl : fs.length = 13 := by rw [← hfs]; rfl
  rw [hfs]
  simp only [go_sem]
  refine loop_go (X := Nat) (fun k => [(0, ⟨true, .sl 2 (fs.map formAV)⟩), (1, ⟨true, .fn (.func 72) [] [.ptr i g 0 0]⟩), (7, ⟨true, iv fs.length⟩), (8, ⟨true, iv k⟩)]) (fun _ => σ)
    (fun k => k ≤ fs.length ∧ (fs.take k).any (fun f => decide (f.1 = w)) = false) (fun k => fs.length - k) 0 (by simp) (by simp only [go_sem]; simp) rfl ?_
  rintro k ⟨hk, hn⟩
  by_cases hlt : k < fs.length
  · have hg := List.getElem?_eq_getElem hlt
    obtain ⟨⟨nm, ls⟩, hs⟩ : ∃ s, fs[k] = s := ⟨_, rfl⟩
    rw [hs] at hg
    simp only [go_sem, hlt, hg, formAV]
    refine callN_of (isName_c nm ls w ws i g _ hi) ?_
    rintro r τ ⟨rfl, rfl⟩
    by_cases hp : nm = w
    · simp only [go_sem, eq_true hp, formAV]
      exact retOK_same hw trivial ⟨by rw [ixI_hit hn hg (by simpa using hp)], rfl⟩
    · simp only [go_sem, hp, formAV]
      exact ⟨k + 1, by omega, ⟨by omega, any_take_succ hn hg (by simpa using hp)⟩, inc k (by omega)⟩
  · simp only [go_sem, hlt]
    exact retOK_same hw trivial ⟨by rw [ixI_none]; rw [List.take_of_length_le (by omega)] at hn; exact hn, rfl⟩

theorem ixI_op (w : Bytes) : ixI (fun f => decide (f.1 = w)) formsB = match opIx w with | some k => (k : Int) | none => -1 := rfl
theorem opIx_lt {w : Bytes} {k : Nat} (h : opIx w = some k) : k < 13 := (List.findIdx?_eq_some_iff_getElem.1 h).1

def insA (l : List Bytes) : Ins × Bool := match instrO l with | some x => (x, true) | none => (zeroI, false)

def arrO (acc : List Int) : AV := .agg [iv (acc[0]?.getD 0), iv (acc[1]?.getD 0), iv (acc[2]?.getD 0)]

theorem instruction_c (w : Bytes) (ws : List Bytes) (σ : Heap) (hl : ws.length ≤ 100) (hls : ∀ x ∈ ws, x.length ≤ 281474976710656) :
    ACalls Tryz.prog 59 [strsB (w :: ws)] σ (fun r σ' => r = .tup [(insA (w :: ws)).1.av, bv (insA (w :: ws)).2] ∧ σ' = σ) := by
  refine acalls_awp Tryz.func59 rfl Tryz.call59 Tryz.ntmps59 Tryz.results59 (Nat.le_of_ble_eq_true rfl) fun hw => ?_
  generalize hres : insA (w :: ws) = res
  unfold insA instrO at hres
  simp only at hres
  refine awp_then ?_
  simp only [go_sem]
  refine awp_then ?_
  simp only [go_sem, forms_chunks]
  refine callN_of (indexForm_c w ws σ.length 0 _ (by simp only [go_sem])) ?_
  rintro r τ ⟨rfl, rfl⟩
  simp only [go_sem]
  refine awp_then ?_
  simp only [go_sem]
  rw [ixI_op]
  cases hop : opIx w with
  | none =>
    rw [hop] at hres
    simp only at hres
    subst hres
    refine awp_draw Tryz.mixed (by kernel_rfl) ?_
    simp only [go_sem, strsB]
    exact retOK_app hw (by simp only [go_sem]) ⟨rfl, rfl⟩
  | some k =>
    rw [hop] at hres
    simp only at hres
    have hk := opIx_lt hop
    have hk' : (k : Int) < 13 := by omega
    have hk0 : (0 : Int) ≤ k := by omega
    have hk1 : ¬ (k : Int) < 0 := by omega
    have hk2 : k * 2 + 2 ≤ 26 := by omega
    have hll := letsS_len k
    simp only
    have hwr : IntKind.i64.wrap (1 + ((letsS k).length : Int)) = (((letsS k).length + 1 : Nat) : Int) := by rw [wrap_i64 (by omega) (by omega)]; omega
    by_cases hlen : ws.length = (letsS k).length
    · rw [if_pos hlen] at hres
      have hlen' : (((ws.length + 1 : Nat) : Int) = (((letsS k).length + 1 : Nat) : Int)) := by omega
      refine awp_draw Tryz.mixed (by kernel_rfl) ?_
      simp only [go_sem, strsB, eq_true hk', eq_true hk0, eq_true hk2, hk1, Int.toNat_natCast, formsC_at k hk, List.size_toArray, hwr, eq_true hlen']
      refine ⟨hk, ?_⟩
      obtain ⟨ls, hls'⟩ : ∃ ls, letsS k = ls := ⟨_, rfl⟩
      have hfa := formsC_at k hk
      rw [hls'] at hll hwr hlen hlen' hres hfa ⊢
      refine awp_then ?_
      simp only [go_sem]
      refine awp_then ?_
      have hge1 : (1 : Int) ≤ ((ws.length + 1 : Nat) : Int) := by omega
      simp only [go_sem, eq_true hge1, show Int.toNat 1 = 1 from rfl, List.drop_succ_cons, List.drop_zero]
      have hwk : ∀ (acc : List Int), WfH (σ.length + 3) (σ ++ [.row 0 1 [strsB (w :: ws)], .row 0 4 [.agg [iv 0, iv 0, iv 0, iv 0]], .row 0 3 [arrO acc]]) := fun acc => wfH_row3 hw ⟨pure_svL _, trivial⟩ ⟨⟨trivial, trivial, trivial, trivial, trivial⟩, trivial⟩ ⟨⟨trivial, trivial, trivial, trivial⟩, trivial⟩
      refine loop_junk (X := Nat × List Int) (fun x => [(2, ⟨true, .ptr (σ.length + 1) 0 0 0⟩), (4, ⟨true, iv k⟩), (5, ⟨true, .ptr (σ.length + 2) 0 0 0⟩), (28, ⟨true, strsB ws⟩), (29, ⟨true, iv ws.length⟩), (30, ⟨true, iv x.1⟩)])
        (fun x => σ ++ [.row 0 1 [strsB (w :: ws)], .row 0 4 [.agg [iv 0, iv 0, iv 0, iv 0]], .row 0 3 [arrO x.2]])
        (fun x => x.1 ≤ ws.length ∧ x.2.length = x.1 ∧ operandsO ls ws = (operandsO (ls.drop x.1) (ws.drop x.1)).map (x.2 ++ ·)) (fun x => ws.length - x.1) (0, []) ⟨by simp, by simp, by simp⟩ (by simp only [go_sem, strsB]; simp) (by simp [strsB, arrO, zeroI, Ins.av]) ?_
      rintro ⟨i, acc⟩ ⟨hi, hal, hop2⟩
      simp only at hi hal hop2
      by_cases hlt : i < ws.length
      · obtain ⟨x, hx⟩ : ∃ x, ws[i]? = some x := ⟨_, List.getElem?_eq_getElem hlt⟩
        obtain ⟨l, hlx⟩ : ∃ l, ls[i]? = some l := ⟨_, List.getElem?_eq_getElem (by omega)⟩
        have hxl := hls x (List.mem_of_getElem? hx)
        have hil : i < ls.length := by omega
        simp only [go_sem, strsB, hlt, hx, eq_true hk', eq_true hk0, eq_true hk2, hk1, Int.toNat_natCast, hfa, hlx, List.size_toArray, eq_true hil]
        refine ⟨hk, ?_⟩
        refine callN_of (operand_c l x _ hxl) ?_
        rintro r τ ⟨rfl, rfl⟩
        have hO := operandA_O l.toNat x
        have hdr : operandsO (ls.drop i) (ws.drop i) = match operandO l.toNat x, operandsO (ls.drop (i + 1)) (ws.drop (i + 1)) with
            | some n, some ns => some (n :: ns)
            | _, _ => none := by
          rw [List.drop_eq_getElem_cons hil, List.drop_eq_getElem_cons hlt, (List.getElem?_eq_some_iff.1 hlx).2, (List.getElem?_eq_some_iff.1 hx).2]
          rfl
        generalize operandA l.toNat x = oa at hO ⊢
        obtain ⟨n, b⟩ := oa
        cases b with
        | false =>
          rw [if_neg (by simp)] at hO
          rw [hdr, hO] at hop2
          simp only [Option.map_none] at hop2
          rw [hop2] at hres
          simp only [Option.map_none] at hres
          subst hres
          simp only [go_sem]
          exact retOK_app hw (by simp only [go_sem]) ⟨rfl, rfl⟩
        | true =>
          rw [if_pos rfl] at hO
          have hop3 : operandsO ls ws = (operandsO (ls.drop (i + 1)) (ws.drop (i + 1))).map ((acc ++ [n]) ++ ·) := by
            rw [hop2, hdr, hO]
            cases operandsO (ls.drop (i + 1)) (ws.drop (i + 1)) with
            | none => rfl
            | some ns => simp
          have done : ∀ (es : List AV) (j : Heap), es = [arrO (acc ++ [n])] → ∃ y : Nat × List Int, ws.length - y.1 < ws.length - i ∧ (y.1 ≤ ws.length ∧ y.2.length = y.1 ∧ operandsO ls ws = (operandsO (ls.drop y.1) (ws.drop y.1)).map (y.2 ++ ·)) ∧
              IntKind.i64.wrap ((i : Int) + 1) = (y.1 : Int) ∧ List.take (σ.length + 3) (σ ++ (.row 0 1 [strsB (w :: ws)] :: .row 0 4 [.agg [iv 0, iv 0, iv 0, iv 0]] :: .row 0 3 es :: j)) = σ ++ [.row 0 1 [strsB (w :: ws)], .row 0 4 [.agg [iv 0, iv 0, iv 0, iv 0]], .row 0 3 [arrO y.2]] ∧
              (σ.length + 1 < σ.length + 3 ∧ σ.length + 2 < σ.length + 3) ∧ WfH (σ.length + 3) (σ ++ [.row 0 1 [strsB (w :: ws)], .row 0 4 [.agg [iv 0, iv 0, iv 0, iv 0]], .row 0 3 [arrO y.2]]) := by
            rintro _ j rfl
            exact ⟨(i + 1, acc ++ [n]), by simp only; omega, ⟨by simp only; omega, by simp only [List.length_append, List.length_singleton]; omega, hop3⟩, inc i (by omega), take_app3, ⟨by omega, by omega⟩, hwk _⟩
          rcases (show i = 0 ∨ i = 1 ∨ i = 2 by omega) with rfl | rfl | rfl
          · obtain rfl : acc = [] := List.length_eq_zero_iff.1 hal
            simp only [go_sem, arrO, List.getElem?_nil, Option.getD_none]
            exact done _ _ rfl
          · obtain ⟨a0, rfl⟩ : ∃ a0, acc = [a0] := List.length_eq_one_iff.1 hal
            simp only [go_sem, arrO, List.getElem?_nil, Option.getD_none]
            exact done _ _ rfl
          · obtain ⟨a0, a1, rfl⟩ : ∃ a0 a1, acc = [a0, a1] := by
              match acc, hal with
              | [a0, a1], _ => exact ⟨a0, a1, rfl⟩
            simp only [go_sem, arrO, List.getElem?_nil, Option.getD_none]
            exact done _ _ rfl
      · obtain rfl : i = ws.length := by omega
        have hd : operandsO (ls.drop ws.length) (ws.drop ws.length) = some [] := by rw [List.drop_of_length_le (Nat.le_of_eq hlen.symm)]; rfl
        rw [hd] at hop2
        simp only [Option.map_some, List.append_nil] at hop2
        rw [hop2] at hres
        simp only [Option.map_some] at hres
        subst hres
        simp only [go_sem, strsB, hlt, arrO]
        refine vcode_sound _ ?_
        simp only [go_sem]
        exact ⟨by decide, by decide, retOK_app hw (by simp only [go_sem]) ⟨rfl, rfl⟩⟩
    · rw [if_neg hlen] at hres
      have hlen' : ¬ (((ws.length + 1 : Nat) : Int) = (((letsS k).length + 1 : Nat) : Int)) := by omega
      subst hres
      refine awp_draw Tryz.mixed (by kernel_rfl) ?_
      simp only [go_sem, strsB, eq_true hk', eq_true hk0, eq_true hk2, hk1, Int.toNat_natCast, formsC_at k hk, List.size_toArray, hwr, hlen']
      exact ⟨hk, retOK_app hw (by simp only [go_sem]) ⟨rfl, rfl⟩⟩
end Go.Proofs.YtdlekkhjkcbbnaaGreatDoor
set_option linter.unusedVariables false
set_option linter.unusedSimpArgs false
set_option maxRecDepth 8000
set_option maxHeartbeats 4000000
namespace Go.Proofs.YtdlekkhjkcbbnaaGreatDoor
open Go.Ab Go.Id Go.Wo Go

def readH (n gc gs : Nat) (s : Prg × Bool) : Heap := [.row 0 4 [.agg [.os (n + 1) gc 0 s.1.code.length, .os (n + 2) gs 0 s.1.strs.length, iv s.1.pages, bv s.2]], .row gc 4 (s.1.code.map Ins.av), .row gs 1 (s.1.strs.map sv)]
theorem readH_wf {σ τ : Heap} (hw : WfH (σ.length + 3) (σ ++ τ)) (gc gs : Nat) (s : Prg × Bool) : WfH (σ.length + 3) (σ ++ readH σ.length gc gs s) := by
  intro o ho
  rcases List.mem_append.1 ho with h | h
  · exact hw o (List.mem_append_left _ h)
  · simp only [readH, List.mem_cons, List.not_mem_nil, or_false] at h
    rcases h with rfl | rfl | rfl
    · exact ⟨⟨by show σ.length + 1 < _; omega, by show σ.length + 2 < _; omega, trivial, trivial, trivial⟩, trivial⟩
    · exact AllIL.mono (fun _ h => h.elim) _ (pure_codeL _)
    · exact AllIL.mono (fun _ h => h.elim) _ (pure_svL _)
def takeRC (σ : Heap) (s : Prg × Bool) (l : List Bytes) : AV → Heap → Prop := fun r σ' => ∃ gc gs s', σ' = σ ++ readH σ.length gc gs s' ∧ ((takeO s l = some s' ∧ r = bv true) ∨ (takeO s l = none ∧ r = bv false))
theorem takeC_fin {σ τ junk : Heap} {s s' : Prg × Bool} {l : List Bytes} (hw : WfH (σ.length + 3) (σ ++ τ)) {gc gs : Nat} {A : AV} {C S : List AV} {b : Bool} (hA : A = .agg [.os (σ.length + 1) gc 0 s'.1.code.length, .os (σ.length + 2) gs 0 s'.1.strs.length, iv s'.1.pages, bv s'.2])
    (hC : C = s'.1.code.map Ins.av) (hS : S = s'.1.strs.map sv) (h : (takeO s l = some s' ∧ b = true) ∨ (takeO s l = none ∧ b = false)) :
    RetOK (σ.length + 3) (bv b) (σ ++ (.row 0 4 [A] :: .row gc 4 C :: .row gs 1 S :: junk)) (takeRC σ s l) := by
  subst hA; subst hC; subst hS
  have e : ∀ a b c : AObj, σ ++ (a :: b :: c :: junk) = (σ ++ [a, b, c]) ++ junk := fun a b c => by simp
  rw [e]
  refine retOK_left (by simp) (readH_wf hw gc gs s') trivial ⟨gc, gs, s', rfl, ?_⟩
  rcases h with ⟨h1, rfl⟩ | ⟨h1, rfl⟩
  · exact .inl ⟨h1, rfl⟩
  · exact .inr ⟨h1, rfl⟩

theorem takeC_c (σ : Heap) (gc gs : Nat) (s : Prg × Bool) (l : List Bytes) (hl : l.length ≤ 100) (hls : ∀ x ∈ l, x.length ≤ 281474976710656) (hc : s.1.code.length < 2^40) (hs : s.1.strs.length < 2^40) :
    ACalls Tryz.prog 38 [.ptr σ.length 0 0 0, strsB l] (σ ++ readH σ.length gc gs s) (takeRC σ s l) := by
  obtain ⟨⟨code, strs, pages⟩, paged⟩ := s
  simp only at hc hs
  refine acalls_awp Tryz.func38 rfl Tryz.call38 Tryz.ntmps38 Tryz.results38 (Nat.le_of_ble_eq_true rfl) fun hw => ?_
  have hw1 : WfH (σ.length + 3) (σ ++ readH σ.length gc gs (⟨code, strs, pages⟩, paged)) := by rw [List.length_append] at hw; exact hw
  simp only [readH]
  refine awp_then ?_
  simp only [go_sem]
  refine awp_then ?_
  simp only [go_sem]
  cases l with
  | nil =>
    refine vcode_sound _ ?_
    simp only [go_sem, strsB]
    exact takeC_fin hw1 (s' := (⟨code, strs, pages⟩, paged)) rfl rfl rfl (.inr ⟨rfl, rfl⟩)
  | cons w ws =>
    have hn0 : ¬ (((ws.length + 1 : Nat) : Int) = 0) := by omega
    by_cases hp : w = [112, 97, 103, 101, 115]
    · subst hp
      have no : ¬ (ws.length = 1 ∧ paged = false ∧ strs = [] ∧ code = []) → takeO (⟨code, strs, pages⟩, paged) ([112, 97, 103, 101, 115] :: ws) = none := fun h => by simp only [takeO]; rw [if_pos trivial, if_neg h]
      have bad : ¬ (ws.length = 1 ∧ paged = false ∧ strs = [] ∧ code = []) → RetOK (σ.length + 3) (bv false) (σ ++ readH σ.length gc gs (⟨code, strs, pages⟩, paged)) (takeRC σ (⟨code, strs, pages⟩, paged) ([112, 97, 103, 101, 115] :: ws)) := fun h =>
        takeC_fin (junk := []) hw1 (s' := (⟨code, strs, pages⟩, paged)) rfl rfl rfl (.inr ⟨no h, rfl⟩)
      simp only [readH] at bad
      refine vcode_sound _ ?_
      by_cases h1 : ws.length = 1
      · have h1' : (((ws.length + 1 : Nat) : Int) = 2) := by omega
        cases hpg : paged with
        | true =>
          simp only [go_sem, strsB, List.length_cons, hn0, eq_true h1', hpg]
          refine ⟨by omega, ?_⟩
          rw [hpg] at bad
          exact bad (by simp)
        | false =>
          rw [hpg] at bad no
          by_cases h2 : strs = []
          · subst h2
            by_cases h3 : code = []
            · subst h3
              obtain ⟨x, rfl⟩ := List.length_eq_one_iff.1 h1
              simp only [go_sem, strsB, List.length_cons, hpg, Int.cast_ofNat_Int, Int.reduceEq]
              have hxl := hls x (by simp)
              refine callN_of (numberC_c x _ hxl) ?_
              rintro r τ ⟨rfl, rfl⟩
              simp only [go_sem]
              have hO := numA_O x
              have htk : takeO (⟨[], [], pages⟩, false) [[112, 97, 103, 101, 115], x] = (numO x).map fun n => (⟨[], [], n⟩, true) := rfl
              generalize numA x = oa at hO ⊢
              obtain ⟨n, b⟩ := oa
              refine takeC_fin (junk := []) hw1 (s' := (⟨[], [], n⟩, true)) rfl rfl rfl ?_
              cases b with
              | true => rw [if_pos rfl] at hO; rw [hO] at htk; exact .inl ⟨htk, rfl⟩
              | false => rw [if_neg (by simp)] at hO; rw [hO] at htk; exact .inr ⟨htk, rfl⟩
            · have h3' : (0 : Int) < (code.length : Int) := by have := List.length_pos_iff.2 h3; omega
              simp only [go_sem, strsB, List.length_cons, hn0, eq_true h1', hpg, eq_true h3']
              exact ⟨by omega, bad (fun h => h3 h.2.2.2)⟩
          · have h2' : (0 : Int) < (strs.length : Int) := by have := List.length_pos_iff.2 h2; omega
            simp only [go_sem, strsB, List.length_cons, hn0, eq_true h1', hpg, eq_true h2']
            exact ⟨by omega, bad (fun h => h2 h.2.2.1)⟩
      · have h1' : ¬ (((ws.length + 1 : Nat) : Int) = 2) := by omega
        simp only [go_sem, strsB, List.length_cons, hn0, h1']
        exact ⟨by omega, bad (fun h => h1 h.1)⟩
    · by_cases ht : w = [115, 116, 114, 105, 110, 103]
      · subst ht
        have no : ¬ (ws.length = 1 ∧ code = []) → takeO (⟨code, strs, pages⟩, paged) ([115, 116, 114, 105, 110, 103] :: ws) = none := fun h => by simp only [takeO]; rw [if_neg hp, if_pos trivial, if_neg h]
        have bad : ¬ (ws.length = 1 ∧ code = []) → RetOK (σ.length + 3) (bv false) (σ ++ readH σ.length gc gs (⟨code, strs, pages⟩, paged)) (takeRC σ (⟨code, strs, pages⟩, paged) ([115, 116, 114, 105, 110, 103] :: ws)) := fun h =>
          takeC_fin (junk := []) hw1 (s' := (⟨code, strs, pages⟩, paged)) rfl rfl rfl (.inr ⟨no h, rfl⟩)
        simp only [readH] at bad
        have hp' : ¬ (ByteArray.mk #[115, 116, 114, 105, 110, 103] = ByteArray.mk #[112, 97, 103, 101, 115]) := by decide
        refine vcode_sound _ ?_
        by_cases h1 : ws.length = 1
        · have h1' : (((ws.length + 1 : Nat) : Int) = 2) := by omega
          by_cases h3 : code = []
          · subst h3
            obtain ⟨x, rfl⟩ := List.length_eq_one_iff.1 h1
            simp only [go_sem, strsB, List.length_cons, hp', Int.cast_ofNat_Int, Int.reduceEq]
            refine awp_draw Tryz.mixed (by kernel_rfl) ?_
            simp only [go_sem]
            exact ⟨by decide, ⟨by omega, by omega⟩, takeC_fin hw1 (s' := (⟨[], strs ++ [x], pages⟩, paged)) (by simp) rfl (by rw [List.map_append]; rfl) (.inl ⟨by simp [takeO], rfl⟩)⟩
          · have h3' : (0 : Int) < (code.length : Int) := by have := List.length_pos_iff.2 h3; omega
            simp only [go_sem, strsB, List.length_cons, hn0, eq_true h1', hp', eq_true h3']
            exact ⟨by omega, by omega, bad (fun h => h3 h.2)⟩
        · have h1' : ¬ (((ws.length + 1 : Nat) : Int) = 2) := by omega
          simp only [go_sem, strsB, List.length_cons, hn0, h1', hp']
          exact ⟨by omega, by omega, bad (fun h => h1 h.1)⟩
      · have hp' : ¬ (ByteArray.mk w.toArray = ByteArray.mk #[112, 97, 103, 101, 115]) := fun h => hp (by rw [show (#[112, 97, 103, 101, 115] : Array UInt8) = [112, 97, 103, 101, 115].toArray from rfl, svb_inj] at h; exact h)
        have ht' : ¬ (ByteArray.mk w.toArray = ByteArray.mk #[115, 116, 114, 105, 110, 103]) := fun h => ht (by rw [show (#[115, 116, 114, 105, 110, 103] : Array UInt8) = [115, 116, 114, 105, 110, 103].toArray from rfl, svb_inj] at h; exact h)
        have hn0 : ¬ (((ws.length + 1 : Nat) : Int) = 0) := by omega
        refine vcode_sound _ ?_
        simp only [go_sem, strsB, hp', ht', List.length_cons, hn0]
        have hi := instruction_c w ws (σ ++ readH σ.length gc gs (⟨code, strs, pages⟩, paged)) (by simp only [List.length_cons] at hl; omega) (fun x hx => hls x (List.mem_cons_of_mem _ hx))
        have htk : takeO (⟨code, strs, pages⟩, paged) (w :: ws) = (instrO (w :: ws)).map fun x => (⟨code ++ [x], strs, pages⟩, paged) := by simp only [takeO, if_neg hp, if_neg ht]
        unfold insA at hi
        refine ⟨by omega, by omega, callN_of hi ?_⟩
        rintro r τ ⟨rfl, rfl⟩
        cases hin : instrO (w :: ws) with
        | none =>
          rw [hin] at htk
          simp only [Option.map_none] at htk
          simp only [go_sem, readH, zeroI, insAV]
          refine awp_draw Tryz.mixed (by kernel_rfl) ?_
          simp only [go_sem]
          exact ⟨⟨by omega, by omega⟩, takeC_fin hw1 (s' := (⟨code ++ [zeroI], strs, pages⟩, paged)) (by simp) (by rw [List.take_of_length_le (by simp), List.map_append]; rfl) rfl (.inr ⟨htk, rfl⟩)⟩
        | some x =>
          obtain ⟨xo, xa, xb, xc⟩ := x
          rw [hin] at htk
          simp only [Option.map_some] at htk
          simp only [go_sem, readH, insAV]
          refine awp_draw Tryz.mixed (by kernel_rfl) ?_
          simp only [go_sem]
          exact ⟨⟨by omega, by omega⟩, takeC_fin hw1 (s' := (⟨code ++ [⟨xo, xa, xb, xc⟩], strs, pages⟩, paged)) (by simp) (by rw [List.take_of_length_le (by simp), List.map_append]; rfl) rfl (.inl ⟨htk, rfl⟩)⟩
end Go.Proofs.YtdlekkhjkcbbnaaGreatDoor
