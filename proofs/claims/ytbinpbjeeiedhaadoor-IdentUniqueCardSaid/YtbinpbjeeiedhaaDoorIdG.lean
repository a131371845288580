/-
  The law IdentUnique: what it answers.
-/
import Derived.Test.YtbinpbjeeiedhaaDoorIdE
import Derived.Test.YtbinpbjeeiedhaaDoorIdQ
set_option linter.unusedVariables false
set_option linter.unusedSimpArgs false
set_option maxRecDepth 8000
set_option maxHeartbeats 4000000
namespace Go.Proofs.YtbinpbjeeiedhaaDoor
open Go.Ab Go.Id Go

theorem und36 : Tryd.prog.underlying 36 = some (.int .u64) := by kernel_rfl
theorem u64_law : KeyLaw Tryd.prog 36 (fun v => ∃ a, v = .int .u64 a) where
  eq := by
    rintro _ _ w ⟨a, rfl⟩ ⟨c, rfl⟩
    exact ⟨_, run_equalIn_int w 9999 36 .u64 .u64 a c und36, by simp⟩
  chk := by
    rintro e _ w ⟨a, rfl⟩
    rw [show (10000 : Nat) = 9998 + 1 + 1 from rfl, Instr.checkKey]
    simp only [Sem.run_bind, run_underlying' und36, Result.andThen_ok]
    rfl
  now := by
    rintro d hd _ _ ⟨a, rfl⟩ ⟨c, rfl⟩
    rw [und36] at hd; cases hd
    exact .inr ⟨_, by simp [Instr.sameNow]; rfl, by simp⟩
  bits := by
    rintro _ ⟨a, rfl⟩
    simp [Instr.sameBits]

abbrev b8 (n : Int) : AV := .v (.int .u8 n)
def bytes8 (l : List Int) : AV := .sl 1 (l.map b8)
theorem pure_bytes8 (l : List Int) : Pure (bytes8 l) := pureL_map (f := b8) (fun _ => trivial) l
@[go_sem] theorem allIL_bytes8 (n : Nat) (l : List Int) : AllIL (· < n) (l.map b8) = True := eq_true (by have := (pure_bytes8 l).allI (n := n); simpa only [bytes8, AllI] using this)
@[go_sem] theorem frzL_bytes8 (i g e : Nat) (es : List AV) (l : List Int) : frzL i g e es (l.map b8) = l.map b8 := frzL_pure _ _ _ _ (pure_bytes8 l)
theorem pure_allos (l : List Allo) : PureL (l.map Allo.av) := pureL_map (f := Allo.av) (fun _ => ⟨trivial, trivial, trivial, trivial⟩) l

theorem nextU_ok (a : Allo) (k : Nat) (h : within a.node a.boot = true) (h0 : 0 ≤ a.serial) (h1 : a.serial + k ≤ 1099511627775) (hk : k ≤ 64) : nextS a k = (idsS a k, ⟨a.node, a.boot, a.serial + k⟩, 0) := by
  unfold nextS
  rw [if_pos ⟨h, h0, by omega⟩, if_neg (by omega), if_neg (by omega)]
  rfl

theorem look_given {N : Nat} {o : POp} {E : Env} {σ : Heap} {K : Env → Heap → Prop} {x y : Operand} {i g : Nat} {gs : List Int} {id : Int} {G : Bool} (hg : gcond E o = some G) (ho : o.op = .lookup 35 x y false)
    (hx : (lk E x).a = .mp i g) (hy : (lk E y).a = uv id) (hi : σ[i]? = some (.map g (gmap gs))) (hn : id ∉ gs) (hs : G = true → opsC E o.op.operands.toList) (hK : putK N o.dst ⟨G, bv false⟩ K E σ) : AOp Tryd.prog N o E σ K := by
  refine aop_lookup (k := .int .u64 id) u64_law hg ho Tryd.ty35 rfl Tryd.ty36 Tryd.ty4 hx hy (by simp [cav]) hi ⟨⟨id, rfl⟩, gmap_keys⟩ hs ?_
  have : mres (.int .u64 id) (gmap gs) (AV.v (.bool false)) false = bv false := by unfold mres; rw [mfind_gmap hn]
  rw [this]; exact hK
theorem wfH_rmr {σ : Heap} {g e g'' e'' : Nat} {es es'' : List AV} {gs : List Int} (hw : WfH σ.length σ) (hp : PureL es) (hp'' : PureL es'') : WfH (σ.length + 3) (σ ++ [.row g e es, .map 0 (gmap gs), .row g'' e'' es'']) := wfH_app (l := [.row g e es, .map 0 (gmap gs), .row g'' e'' es'']) hw fun o ho => by
  simp only [List.mem_cons, List.not_mem_nil, or_false] at ho
  rcases ho with rfl | rfl | rfl
  · exact AllIL.mono (fun _ h => h.elim) _ hp
  · intro p hp
    obtain ⟨a, _, rfl⟩ := List.mem_map.1 hp
    trivial
  · exact AllIL.mono (fun _ h => h.elim) _ hp''
theorem wfH_rm {σ : Heap} {g e : Nat} {es : List AV} {gs : List Int} (hw : WfH σ.length σ) (hp : PureL es) : WfH (σ.length + 2) (σ ++ [.row g e es, .map 0 (gmap gs)]) := wfH_app (l := [.row g e es, .map 0 (gmap gs)]) hw fun o ho => by
  simp only [List.mem_cons, List.not_mem_nil, or_false] at ho
  rcases ho with rfl | rfl
  · exact AllIL.mono (fun _ h => h.elim) _ hp
  · intro p hp
    obtain ⟨a, _, rfl⟩ := List.mem_map.1 hp
    trivial

theorem unique_c (nodes boots counts : List Int) (σ : Heap) (h0 : ∀ x ∈ nodes, 0 ≤ x ∧ x < 256) (h1 : ∀ x ∈ boots, 0 ≤ x ∧ x < 256) (h2 : ∀ x ∈ counts, 0 ≤ x ∧ x < 256) (l0 : nodes.length < 2^62) (l1 : boots.length < 2^62) (l2 : counts.length < 2^62) :
    ACalls Tryd.prog 4 [bytes8 nodes, bytes8 boots, bytes8 counts] σ (fun r σ' => r = bv true ∧ σ' = σ) := by
  refine acalls_awp Tryd.func4 rfl Tryd.call4 Tryd.ntmps4 Tryd.results4 (Nat.le_of_ble_eq_true rfl) fun hw => ?_
  refine awp_then ?_
  simp only [go_sem, bytes8]
  refine awp_then ?_
  simp only [go_sem]
  refine callN_of (sane_c _) ?_
  rintro r τ ⟨rfl, rfl⟩
  simp only [go_sem]
  refine awp_then ?_
  simp only [go_sem]
  refine awp_nil 7 3 (by simp only [go_sem]) ?_
  refine awp_then ?_
  simp only [go_sem, bytes8]
  refine loop_junk (X := Nat × List Allo) (fun x => [(0, ⟨true, bytes8 nodes⟩), (1, ⟨true, bytes8 boots⟩), (2, ⟨true, bytes8 counts⟩), (7, ⟨true, .os τ.length x.2.length 0 x.2.length⟩), (8, ⟨true, iv x.1⟩)])
    (fun x => τ ++ [.row x.2.length 3 (x.2.map Allo.av)]) (fun x => x.1 ≤ 5 ∧ x.2.length ≤ x.1 ∧ Id.Good 0 x.2) (fun x => 5 - x.1) (0, []) ⟨by simp, by simp, ⟨by simp, List.Pairwise.nil⟩⟩ (by simp only [go_sem, bytes8]; rfl) (by simp) ?_
  rintro ⟨i, L⟩ ⟨hi, hLi, hL⟩
  simp only at hi hLi hL
  by_cases hall : i < nodes.length ∧ i < boots.length ∧ i < 5
  · obtain ⟨a0, a1, a2⟩ := hall
    have g0 := List.getElem?_eq_getElem a0
    have g1 := List.getElem?_eq_getElem a1
    have q0 := h0 _ (List.getElem_mem a0)
    have q1 := h1 _ (List.getElem_mem a1)
    have a2' : (i : Int) < 5 := by omega
    have e0 : IntKind.i64.wrap (nodes[i].tmod 3) = nodes[i] % 3 := by rw [Int.tmod_eq_emod_of_nonneg q0.1]; exact wrap_i64 (by omega) (by omega)
    have e1 : IntKind.i64.wrap (boots[i].tmod 3) = boots[i] % 3 := by rw [Int.tmod_eq_emod_of_nonneg q1.1]; exact wrap_i64 (by omega) (by omega)
    simp only [go_sem, bytes8, a0, a1, a2']
    refine awp_draw Tryd.mixed (by kernel_rfl) ?_
    simp only [go_sem, bytes8, a0, a1, g0, g1, e0, e1]
    generalize hnn : nodes[i] % 3 = nn
    generalize hbb : boots[i] % 3 = bb
    have hnn' : 0 ≤ nn ∧ nn ≤ 2 := by omega
    have hbb' : 0 ≤ bb ∧ bb ≤ 2 := by omega
    have en : newS nn bb = (⟨nn, bb, 0⟩, 0) := if_pos (by simp [within]; omega)
    refine ⟨by decide, by decide, callD_of (.tup [(newS nn bb).1.av, iv (newS nn bb).2]) (fun _ σ' => new_c nn bb σ') ?_⟩
    rw [en]
    simp only [go_sem, bytes8, Allo.av]
    refine loop_junk (X := Nat) (fun k => [(0, ⟨true, bytes8 nodes⟩), (1, ⟨true, bytes8 boots⟩), (2, ⟨true, bytes8 counts⟩), (7, ⟨true, .os τ.length L.length 0 L.length⟩), (8, ⟨true, iv i⟩), (9, ⟨true, .ptr (τ.length + 1) 0 0 0⟩), (11, ⟨true, bv ((L.take k).any fun x => decide (x.node = nn) && decide (x.boot = bb))⟩), (59, ⟨true, .os τ.length L.length 0 L.length⟩), (60, ⟨true, iv L.length⟩), (61, ⟨true, iv k⟩)])
      (fun k => τ ++ [.row L.length 3 (L.map Allo.av), .row 0 3 [.agg [iv nn, iv bb, iv 0]]]) (fun k => k ≤ L.length) (fun k => L.length - k) 0 (by omega) (by simp only [go_sem, bytes8]; exact ⟨rfl, rfl⟩) (by simp) ?_
    intro k hk
    by_cases hlt : k < L.length
    · have gk := List.getElem?_eq_getElem hlt
      have hsn : ∀ kn : Bool, ((L.take k).any fun x => decide (x.node = nn) && decide (x.boot = bb)) = kn → ((L.take (k + 1)).any fun x => decide (x.node = nn) && decide (x.boot = bb)) = (kn || (decide (L[k].node = nn) && decide (L[k].boot = bb))) := by
        intro kn h
        rw [List.take_add_one, gk, Option.toList_some, List.any_append, h]; simp
      cases hkn : (L.take k).any fun x => decide (x.node = nn) && decide (x.boot = bb) with
      | true =>
        have h1 := hsn _ hkn
        simp only [go_sem, bytes8, hlt, gk, Allo.av, hkn]
        exact ⟨k + 1, by omega, by omega, ⟨by rw [h1]; simp, inc k (by omega)⟩, take_app2, by omega, wfH_row2 hw (pure_allos L) ⟨⟨trivial, trivial, trivial, trivial⟩, trivial⟩⟩
      | false =>
        have h1 := hsn _ hkn
        simp only [go_sem, bytes8, hlt, gk, Allo.av, hkn]
        exact ⟨k + 1, by omega, by omega, ⟨by rw [h1]; simp, inc k (by omega)⟩, take_app2, by omega, wfH_row2 hw (pure_allos L) ⟨⟨trivial, trivial, trivial, trivial⟩, trivial⟩⟩
    · obtain rfl : k = L.length := by omega
      rw [List.take_length]
      cases hkn : L.any fun x => decide (x.node = nn) && decide (x.boot = bb) with
      | true =>
        simp only [go_sem, bytes8, hlt]
        exact ⟨(i + 1, L), by simp only; omega, ⟨by simp only; omega, by simp only; omega, hL⟩, ⟨rfl, inc i (by omega)⟩, take_app1, by omega, wfH_row1 hw (pure_allos L)⟩
      | false =>
        simp only [go_sem, bytes8, hlt]
        have hlen : (L ++ [(⟨nn, bb, 0⟩ : Allo)]).length = L.length + 1 := by simp
        have eh : List.take L.length (L.map Allo.av) ++ [.agg [iv nn, iv bb, iv 0]] = (L ++ [(⟨nn, bb, 0⟩ : Allo)]).map Allo.av := by
          rw [List.take_of_length_le (by simp), List.map_append]; rfl
        refine ⟨⟨by omega, by omega⟩, (i + 1, L ++ [⟨nn, bb, 0⟩]), by simp only; omega, ⟨by simp only; omega, by simp only [hlen]; omega, good_snoc hL (by omega) hnn'.1 hnn'.2 hbb'.1 hbb'.2 hkn⟩, ⟨by simp only [hlen], inc i (by omega)⟩, ?_, by omega, by simp only [hlen]; exact wfH_row1 hw (pure_allos _)⟩
        simp only [hlen, ← eh]; exact take_app1
  · have hall' : (decide (i < nodes.length) && decide (i < boots.length) && decide ((i : Int) < 5)) = false := by
      simp only [Bool.and_eq_false_iff, decide_eq_false_iff_not]; omega
    simp only [go_sem, bytes8, hall']
    refine awp_then ?_
    simp only [go_sem]
    refine aop_makeMap rfl rfl ?_
    simp only [go_sem]
    refine awp_then ?_
    simp only [go_sem, bytes8]
    refine loop_junk (X := Nat × List Allo × List Int) (fun x => [(2, ⟨true, bytes8 counts⟩), (7, ⟨true, .os τ.length L.length 0 L.length⟩), (14, ⟨true, .mp (τ.length + 1) 0⟩), (88, ⟨true, bytes8 counts⟩), (89, ⟨true, iv counts.length⟩), (90, ⟨true, iv x.1⟩)])
      (fun x => τ ++ [.row L.length 3 (x.2.1.map Allo.av), .map 0 (gmap x.2.2)]) (fun x => x.1 ≤ counts.length ∧ x.1 ≤ 30 ∧ x.2.1.length = L.length ∧ Id.Good (15 * (x.1 : Int)) x.2.1 ∧ Given x.2.1 x.2.2) (fun x => counts.length - x.1) (0, L, []) ⟨by simp, by simp, rfl, by simpa using hL, by intro id hid; simp at hid⟩ (by simp only [go_sem, bytes8]; rfl) (by simp [gmap]) ?_
    rintro ⟨j, M, g⟩ ⟨hj, hj30, hM, hG, hg⟩
    simp only at hj hj30 hM hG hg
    by_cases hlt : j < counts.length
    · have g2 := List.getElem?_eq_getElem hlt
      have q2 := h2 _ (List.getElem_mem hlt)
      by_cases hL0 : (L.length : Int) = 0 ∨ 30 ≤ (j : Int)
      · simp only [go_sem, bytes8, hlt, g2, eq_true hL0]
        refine vcode_sound _ ?_
        simp only [go_sem]
        exact retOK_app hw trivial ⟨rfl, rfl⟩
      · obtain ⟨c, hc⟩ := Int.eq_ofNat_of_zero_le q2.1
        have c256 : c < 256 := by omega
        have hLp : 0 < L.length := by omega
        have ek : (IntKind.i64.wrap counts[j]).tmod (L.length : Int) = ((c % L.length : Nat) : Int) := by rw [hc, wrap_i64 (by omega) (by omega)]; exact (Int.ofNat_tmod _ _).symm
        have hkl : c % L.length < M.length := by rw [hM]; exact Nat.mod_lt _ hLp
        have eq16 : IntKind.i64.wrap (IntKind.u8.wrap (counts[j].tdiv 16)) = ((c / 16 : Nat) : Int) := by
          rw [hc, show ((c : Nat) : Int).tdiv 16 = ((c / 16 : Nat) : Int) from (Int.ofNat_tdiv c 16).symm, show IntKind.u8.wrap ((c / 16 : Nat) : Int) = ((c / 16 : Nat) : Int) by (simp [IntKind.wrap, IntKind.bits, IntKind.signed]; omega)]
          exact wrap_i64 (by omega) (by omega)
        generalize hkk : c % L.length = kk at hkl ek
        have gM := List.getElem?_eq_getElem hkl
        have hkL : kk < L.length := by omega
        have hLne : ¬ (L.length : Int) = 0 := by omega
        have hj3 : ¬ 30 ≤ (j : Int) := by omega
        simp only [go_sem, bytes8, hlt, g2, ek, eq16, hkL, gM, hLne, hj3, Allo.av]
        have hra := hG.rng M[kk] (List.getElem_mem hkl)
        have hwi : within M[kk].node M[kk].boot = true := by simp [within]; omega
        have en := nextU_ok M[kk] (c / 16) hwi (by omega) (by omega) (by omega)
        refine ⟨hLne, hkl, by decide, ?_⟩
        refine callN_of (next_c M[kk] (c / 16 : Nat) _) ?_
        rintro r τ' ⟨rfl, rfl⟩
        rw [en]
        have hMk : M[kk] ∈ M := List.getElem_mem hkl
        have hlid : ∀ q, (idsS M[kk] q).length = q := idsS_length M[kk]
        have hgs := good_set hkl hG (c := c / 16) (by omega)
        have hgv := given_set hkl hG hg (c := c / 16)
        have hfr : ∀ q : Nat, q < 16 → idOf M[kk].node M[kk].boot (M[kk].serial + ((q : Int) + 1)) ∉ g ++ idsS M[kk] q := fun q hq => fresh hG hg hMk (by omega) hq
        have hva : ∀ q : Nat, q < 16 → validS (idOf M[kk].node M[kk].boot (M[kk].serial + ((q : Int) + 1))) = true := fun q hq => valid_id hra.1 hra.2.1 hra.2.2.1 hra.2.2.2.1 (by omega) (by omega)
        have hat : ∀ q : Nat, q < c / 16 → (idsS M[kk] (c / 16))[q]? = some (idOf M[kk].node M[kk].boot (M[kk].serial + ((q : Int) + 1))) := by
          intro q hq
          unfold idsS
          rw [List.getElem?_map, List.getElem?_range hq]; rfl
        have hsuc : ∀ q : Nat, idsS M[kk] (q + 1) = idsS M[kk] q ++ [idOf M[kk].node M[kk].boot (M[kk].serial + ((q : Int) + 1))] := idsS_succ M[kk]
        generalize hA : M[kk] = a at *
        simp only [go_sem, uints, Allo.av, hlid, eq16]
        refine ⟨by decide, ?_⟩
        refine loop_junk (X := Nat) (fun q => [(2, ⟨true, bytes8 counts⟩), (7, ⟨true, .os τ.length L.length 0 L.length⟩), (14, ⟨true, .mp (τ.length + 1) 0⟩), (17, ⟨true, iv kk⟩), (18, ⟨true, uints (idsS a (c / 16))⟩), (19, ⟨true, .ptr (τ.length + 2) 0 0 0⟩), (88, ⟨true, bytes8 counts⟩), (89, ⟨true, iv counts.length⟩), (90, ⟨true, iv j⟩), (129, ⟨true, uints (idsS a (c / 16))⟩), (130, ⟨true, iv (c / 16 : Nat)⟩), (131, ⟨true, iv q⟩)])
          (fun q => τ ++ [.row L.length 3 (M.map Allo.av), .map 0 (gmap (g ++ idsS a q)), .row 0 3 [.agg [iv a.node, iv a.boot, iv (a.serial + ((c / 16 : Nat) : Int))]]]) (fun q => q ≤ c / 16) (fun q => c / 16 - q) 0 (by omega) (by simp only [go_sem, bytes8, uints]; rfl) (by simp [idsS]) ?_
        intro q hq
        by_cases hqlt : q < c / 16
        · have gq := hat q hqlt
          simp only [go_sem, bytes8, uints, hqlt, hlid, gq]
          have hfq := hfr q (by omega)
          have hvq := hva q (by omega)
          have hsq := hsuc q
          generalize idOf a.node a.boot (a.serial + ((q : Int) + 1)) = z at *
          refine look_given (G := true) (gs := g ++ idsS a q) (id := z) rfl rfl rfl rfl (by simp only [go_sem]) hfq (fun _ => by simp only [go_sem]) ?_
          simp only [go_sem]
          refine callG_of (bv true) (fun _ => by have := fun σ => valid_c z σ; rw [hvq] at this; exact this _) ?_
          simp only [go_sem]
          refine aop_mapUpdate (i := τ.length + 1) (g := 0) (es := gmap (g ++ idsS a q)) (k := .int .u64 z) u64_law rfl (.inl rfl) Tryd.ty35 rfl Tryd.ty36 rfl rfl (by simp [cav]) (by simp only [go_sem]) ⟨⟨_, rfl⟩, gmap_keys⟩ (by simp only [go_sem]) rfl ?_
          simp only [go_sem]
          have em := mset_gmap hfq
          rw [List.append_assoc, ← hsq] at em
          simp only [em]
          exact ⟨q + 1, by omega, by omega, inc q (by omega), take_app3, by omega, wfH_rmr hw (pure_allos M) ⟨⟨trivial, trivial, trivial, trivial⟩, trivial⟩⟩
        · obtain rfl : q = c / 16 := by omega
          simp only [go_sem, bytes8, uints, hqlt, hlid]
          have eset : (M.map Allo.av).set kk (.agg [iv a.node, iv a.boot, iv (a.serial + ((c / 16 : Nat) : Int))]) = (M.set kk ⟨a.node, a.boot, a.serial + ((c / 16 : Nat) : Int)⟩).map Allo.av := by rw [List.map_set]; rfl
          have e15 : 15 * ((j + 1 : Nat) : Int) = 15 * (j : Int) + 15 := by omega
          refine ⟨hkL, hkl, (j + 1, M.set kk ⟨a.node, a.boot, a.serial + ((c / 16 : Nat) : Int)⟩, g ++ idsS a (c / 16)), by simp only; omega, ⟨by simp only; omega, by simp only; omega, by simpa using hM, by simp only [e15]; exact hgs, hgv⟩, inc j (by omega), ?_, by omega, wfH_rm hw (pure_allos _)⟩
          simp only [← eset]
          exact take_app2
    · simp only [go_sem, bytes8, hlt]
      refine vcode_sound _ ?_
      simp only [go_sem]
      exact retOK_app hw trivial ⟨rfl, rfl⟩
theorem unique_i (nodes boots counts : List Int) (σ : Heap) (h0 : ∀ x ∈ nodes, (Lit.int .u8 x).wf = true) (h1 : ∀ x ∈ boots, (Lit.int .u8 x).wf = true) (h2 : ∀ x ∈ counts, (Lit.int .u8 x).wf = true) (l0 : nodes.length < 2^62) (l1 : boots.length < 2^62) (l2 : counts.length < 2^62) :
    ACalls Tryd.prog 4 [bytes8 nodes, bytes8 boots, bytes8 counts] σ (fun r σ' => r = bv true ∧ σ' = σ) := by
  have b : ∀ x : Int, (Lit.int .u8 x).wf = true → 0 ≤ x ∧ x < 256 := by
    intro x h
    simp [Lit.wf, IntKind.min, IntKind.max, IntKind.bits, IntKind.signed] at h; omega
  exact unique_c nodes boots counts σ (fun x hx => b x (h0 x hx)) (fun x hx => b x (h1 x hx)) (fun x hx => b x (h2 x hx)) l0 l1 l2
end Go.Proofs.YtbinpbjeeiedhaaDoor
