/-
  strings.Builder: copyCheck, WriteString, String, in a world; and over the abstract heap.
-/
import Derived.Test.YtdlekkhjkcbbnaaGreatDoorTy
import Derived.Test.YtdlekkhjkcbbnaaGreatDoorAbZ
import Derived.WalkKit
import Derived.Shelf.RegionOpenPlain
import Derived.Laws.Externs
import Derived.OwnWalk
set_option linter.unusedVariables false
set_option linter.unusedSimpArgs false
set_option linter.unusedSectionVars false
namespace Go.Proofs.YtdlekkhjkcbbnaaGreatDoor
open Go.Ab Go Go.RowKit
variable [GlobFacts]

theorem info_B : ∃ j, Tryz.prog.info? 55 = some j ∧ j.size = 2 := by
  obtain ⟨i, d, z, h1, _, _, _, _, _, _, h8, _⟩ := tinf_parts Tryz.ty55
  exact ⟨i, h1, h8.symm⟩

theorem wset_id {w : World} {b : Nat} {o : Obj} (h : w.heap[b]? = some o) : wset w b o = w := by
  have hb := (Array.getElem?_eq_some_iff.1 h).1
  have he := (Array.getElem?_eq_some_iff.1 h).2
  unfold wset
  rw [← he]
  simp only [Array.setIfInBounds, hb, dite_true, Array.set_getElem_self]

set_option maxHeartbeats 1000000 in
set_option maxRecDepth 100000 in
theorem copyCheck_c (b : Nat) (p v : Value) (w : World) (hb : w.heap[b]? = some (.cells #[p, v] 55 (0, 0))) (hp : p = .pointer none ∨ p = .pointer (some ⟨b, 0, none⟩)) :
    Calls Tryz.prog 50 #[.pointer (some ⟨b, 0, none⟩)] w fun e w' => e = .returned (.tuple #[]) ∧ w' = wset w b (.cells #[.pointer (some ⟨b, 0, none⟩), v] 55 (0, 0)) := by
  obtain ⟨j, hj, hjs⟩ := info_B
  have h0 : w.cell? ⟨b, 0, none⟩ = some p := by rw [Lib.cell_of_heap hb]; rfl
  rcases hp with rfl | rfl
  · have hsh : w.shape? b = some (55, 2) := by simp [World.shape?, hb]
    have hfz : w.frozen? ⟨b, 0, none⟩ = false := Lib.frozen_of_heap hb 0
    have hset := setCell_wset (w := w) (b := b) (off := 0) (cs := [.pointer none, v]) hb (.pointer (some ⟨b, 0, none⟩))
    go_enter Tryz.func50, Tryz.ntmps50
    go_wp2
    rw [Lib.run_to_unsafe w ⟨b, 0, none⟩ Tryz.underlying53 Tryz.underlying110 hj (by rw [hjs]; decide) hsh (Nat.zero_lt_succ 1)]
    simp only [Result.andThen]
    rw [Oper.upon_value]
    go_wp2
    rw [run_callFunc_extern Tryz.func62 (by kernel_rfl) (by kernel_rfl) (by kernel_rfl) (e := Extern.AbiNoEscape.same) (by kernel_rfl)]
    rw [Lib.run_noEscape]
    simp only [Result.andThen]
    rw [Oper.upon_value]
    go_wp2
    rw [Lib.run_from_unsafe w ⟨b, 0, none⟩ Tryz.underlying110 Tryz.underlying53 hj hsh (by kernel_rfl)]
    simp only [Result.andThen]
    rw [Oper.upon_value]
    go_wp2
    go_end0
    exact ⟨rfl, rfl⟩
  · rw [wset_id hb]
    go_enter Tryz.func50, Tryz.ntmps50
    go_wp2
    rw [Lib.run_neq_ptr_same w _ Tryz.underlying53 hj]
    go_wp2
    go_end0
    exact ⟨rfl, rfl⟩

theorem info_byte : ∃ i, Tryz.prog.info? 5 = some i ∧ i.zero = some (.int .u8 0) ∧ i.size = 1 ∧ i.bytes = 1 := by
  have h : (Tryz.prog.info? 5).map (fun i => (i.zero, i.size, i.bytes)) = some (some (.int .u8 0), 1, 1) := by kernel_rfl
  obtain ⟨i, hi, he⟩ := Option.map_eq_some_iff.1 h
  simp only [Prod.mk.injEq] at he
  exact ⟨i, hi, he⟩

set_option maxHeartbeats 2000000 in
set_option maxRecDepth 100000 in
theorem writeString_w (b n : Nat) (p v : Value) (xs : List Value) (s : ByteArray) (w : World) (hb : w.heap[b]? = some (.cells #[p, v] 55 (0, 0))) (hp : p = .pointer none ∨ p = .pointer (some ⟨b, 0, none⟩))
    (hv : BufAt 5 n xs v w) (hne : v.ownBlock ≠ some b) (hs : s.size ≠ 0) (hbytes : n + s.size ≤ 140737488355328) :
    Calls Tryz.prog 24 #[.pointer (some ⟨b, 0, none⟩), .string s] w fun e w' => e = .returned (.tuple #[.int .i64 s.size, .nilIface]) ∧ w'.os = w.os ∧ w'.output = w.output ∧ w.heap.size ≤ w'.heap.size ∧
      (∀ k, k < w.heap.size → k ≠ b → v.ownBlock ≠ some k → w'.heap[k]? = w.heap[k]?) ∧ ∃ g cap cur, w'.heap[b]? = some (.cells #[.pointer (some ⟨b, 0, none⟩), .slice (some ⟨g, 0, none⟩) (n + s.size) cap] 55 (0, 0)) ∧
        w'.heap[g]? = some (.cells cur 5 (0, 0)) ∧ n + s.size ≤ cap ∧ cap ≤ cur.size ∧ cur.toList.take (n + s.size) = xs ++ Lib.strCells s ∧ (v.ownBlock = some g ∨ w.heap.size ≤ g) := by
  obtain ⟨i0, hi, hz0, hz1, hz2⟩ := info_byte
  have hlt := (Array.getElem?_eq_some_iff.1 hb).1
  go_enter Tryz.func24, Tryz.ntmps24
  go_wp2_with (go_at_call 50; refine (copyCheck_c b p v _ hb hp).mono ?_)
  rintro e w1 ⟨rfl, h1⟩
  have hb1 : w1.heap[b]? = some (.cells #[.pointer (some ⟨b, 0, none⟩), v] 55 (0, 0)) := by rw [h1]; exact wset_same _ hlt
  have ho1 : ∀ k, k ≠ b → w1.heap[k]? = w.heap[k]? := fun k hk => by rw [h1]; exact wset_other _ hk
  have os1 : w1.os = w.os := by rw [h1]; rfl
  have out1 : w1.output = w.output := by rw [h1]; rfl
  have sz1 : w1.heap.size = w.heap.size := by rw [h1]; simp
  have hv1 : BufAt 5 n xs v w1 := by
    rcases hv with h | ⟨g, cap, cur, rfl, hg, hr⟩
    · exact .inl h
    · exact .inr ⟨g, cap, cur, rfl, by rw [ho1 g (fun e => hne (by simp [Value.ownBlock, e]))]; exact hg, hr⟩
  clear h1
  have c0 : w1.cell? ⟨b, 0, none⟩ = some (.pointer (some ⟨b, 0, none⟩)) := by rw [Lib.cell_of_heap hb1]; rfl
  have c1 : w1.cell? ⟨b, 1, none⟩ = some v := by rw [Lib.cell_of_heap hb1]; rfl
  go_wp2_with (at_builtin; refine wpList_append_buf rfl _ _ 26 9 rfl 5 i0 Tryz.underlying26 Tryz.underlying9 hi hz0 hz1 hz2 rfl hv1 s rfl hs hbytes ?_)
  intro v' w2 hap
  obtain ⟨g, cap, cur, rfl, hg2, hn2, hc2, ht2, hgo⟩ := hap.new
  have hb2 : w2.heap[b]? = some (.cells #[.pointer (some ⟨b, 0, none⟩), v] 55 (0, 0)) := by
    rw [hap.keep b (by omega) hne]; exact hb1
  have hgb : g ≠ b := by
    rcases hgo with h | h
    · intro e; exact hne (by rw [h, e])
    · omega
  have d1 : w2.cell? ⟨b, 1, none⟩ = some v := by rw [Lib.cell_of_heap hb2]; rfl
  have f1 : w2.frozen? ⟨b, 1, none⟩ = false := Lib.frozen_of_heap hb2 1
  have hb3 := setCell_wset (w := w2) (b := b) (off := 1) (cs := [.pointer (some ⟨b, 0, none⟩), v]) hb2 (.slice (some ⟨g, 0, none⟩) (n + s.size) cap)
  have hlt2 := (Array.getElem?_eq_some_iff.1 hb2).1
  go_wp2
  go_ret2
  refine ⟨rfl, hap.os.trans os1, hap.output.trans out1, ?_, fun k hk hkb hkv => ?_, g, cap, cur, wset_same _ hlt2, ?_, hn2, hc2, ht2, hgo.imp id (fun h => by omega)⟩
  · have := hap.size; simp only [wset_size]; omega
  · rw [wset_other _ hkb, hap.keep k (by omega) hkv, ho1 k hkb]
  · rw [wset_other _ hgb]; exact hg2

set_option maxHeartbeats 2000000 in
set_option maxRecDepth 100000 in
theorem string_w (b g cap : Nat) (p : Value) (cur : Array Value) (l : List UInt8) (w : World) (hb : w.heap[b]? = some (.cells #[p, .slice (some ⟨g, 0, none⟩) l.length cap] 55 (0, 0)))
    (hg : w.heap[g]? = some (.cells cur 5 (0, 0))) (hnc : l.length ≤ cap) (hcs : cap ≤ cur.size) (ht : cur.toList.take l.length = Lib.byteCells l) (h0 : l ≠ []) (h63 : l.length ≤ 9223372036854775807) :
    Calls Tryz.prog 28 #[.pointer (some ⟨b, 0, none⟩)] w fun e w' => e = .returned (.string ⟨l.toArray⟩) ∧ w' = w.drew.freeze ⟨g, 0, none⟩ l.length := by
  have hl0 : l.length ≠ 0 := by simpa using h0
  have c1 : w.drew.cell? ⟨b, 1, none⟩ = some (.slice (some ⟨g, 0, none⟩) l.length cap) := by
    have : w.drew.heap[b]? = some (.cells #[p, .slice (some ⟨g, 0, none⟩) l.length cap] 55 (0, 0)) := hb
    rw [Lib.cell_of_heap this]; rfl
  have hSD : (Builtin.unsafeSliceData_ #[26] 96 #[.slice (some ⟨g, 0, none⟩) l.length cap]).run Tryz.prog w.drew = .ok (.pointer (some ⟨g, 0, none⟩)) w.drew :=
    Lib.run_unsafeSliceData_row _ _ _ _ _ _ (by omega)
  have hUS : (Builtin.unsafeString_ #[96, 3] 9 #[.pointer (some ⟨g, 0, none⟩), .int .i64 l.length]).run Tryz.prog w.drew = .ok (.string ⟨l.toArray⟩) (w.drew.freeze ⟨g, 0, none⟩ l.length) := by
    refine Lib.run_unsafeString_row w.drew 96 3 9 5 Tryz.underlying96 (by kernel_rfl) g cur.size (by have hg' : w.drew.heap[g]? = some (.cells cur 5 (0, 0)) := hg; simp [World.shape?, hg']) l h0 (by omega) h63 ?_
    intro j x hx
    have hg' : w.drew.heap[g]? = some (.cells cur 5 (0, 0)) := hg
    have hj := (List.getElem?_eq_some_iff.1 hx).1
    have h1 : (cur.toList.take l.length)[j]? = some (.int .u8 x.toNat) := by rw [ht]; simp [Lib.byteCells, hx]
    rw [List.getElem?_take, if_pos hj] at h1
    rw [addr_add, Nat.zero_add, Lib.cell_of_heap hg']
    simpa using h1
  have mixed : Tryz.prog.follows .mixedOrders = true := by kernel_rfl
  go_enter Tryz.func28, Tryz.ntmps28
  go_wp2
  go_region_o
  all_goals (go_wp2; go_ret; exact ⟨rfl, rfl⟩)

abbrev TB : Nat := 55
abbrev TU : Nat := 5

theorem set_push {α : Type} (l : List α) {i : Nat} (h : i < l.length) (a b c : α) : ((l ++ [a]).set l.length b).set i c = l.set i c ++ [b] := by
  simp [List.set_append, h]

theorem freeze_w (w : World) (g n : Nat) : (w.freeze ⟨g, 0, none⟩ n).os = w.os ∧ (w.freeze ⟨g, 0, none⟩ n).output = w.output ∧ (w.freeze ⟨g, 0, none⟩ n).heap.size = w.heap.size ∧ ∀ k, k ≠ g → (w.freeze ⟨g, 0, none⟩ n).heap[k]? = w.heap[k]? := by
  unfold World.freeze
  split
  · exact ⟨rfl, rfl, rfl, fun _ _ => rfl⟩
  · refine ⟨rfl, rfl, by simp, fun k hk => ?_⟩
    simp only [Array.getElem?_modify]
    rw [if_neg (Ne.symm hk)]

theorem cells1 {w : World} {L : LM} {pa va : AV} {xs : List Value} (h : RepE w L 2 [.agg [pa, va]] xs) : ∃ p v, xs = [p, v] ∧ Rep w L pa p ∧ Rep w L va v := by
  simp only [RepE, Rep, RepL] at h
  obtain ⟨y, zs, rfl, ⟨h1, h2⟩, ⟨ys, rfl, ⟨p, qs, rfl, hp, v, q2, rfl, hv, rfl⟩, _⟩, rfl⟩ := h
  exact ⟨p, v, by simp [Value.cells], hp, hv⟩

theorem repE_map {w : World} {L : LM} {vs xs : List Value} (hq : ∀ v ∈ vs, v.cells.toList = [v]) (h : RepE w L 1 (vs.map .v) xs) : xs = vs := repE_v1 hq h

theorem writeString_new {i gi : Nat} {σ : Heap} {s : ByteArray} (hi : σ[i]? = some (.tro gi TB 2 [.agg [.v (.pointer none), .v (.slice none 0 0)]])) (hs : s.size ≠ 0) (hbytes : s.size ≤ 140737488355328) :
    ACalls Tryz.prog 24 [.ptr i gi 0 0, .v (.string s)] σ (fun r σ' => r = .tup [.v (.int .i64 s.size), .v .nilIface] ∧ σ' = σ.set i (bldO i σ.length gi TB s.size 1) ++ [.tro 1 TU 1 ((Lib.strCells s).map .v)]) := by
  refine ⟨Tryz.call24, fun vs w ρ hh hr => ?_⟩
  simp only [RepL, Rep] at hr
  obtain ⟨x, _, rfl, hx, y, _, rfl, rfl, rfl⟩ := hr
  obtain ⟨b, sz, xs, ys, hl, hri, hb, ⟨hsz, hye⟩, hE⟩ := hh.tro hi
  obtain ⟨p, v, rfl, hp, hv⟩ := cells1 hE
  simp only [Rep] at hp hv
  subst hp; subst hv
  have hy : ys = [] := by rcases hye with h | h; · cases h
                          · exact h
  subst hy
  rw [hl] at hx
  simp only [ptrAt] at hx
  subst hx
  have hb' : w.heap[b]? = some (.cells #[.pointer none, .slice none 0 0] TB (0, 0)) := by simpa using hb
  simp only [Nat.zero_mul, Nat.zero_add]
  refine (writeString_w b 0 _ _ [] s w hb' (.inl rfl) (.inl ⟨rfl, rfl, rfl⟩) (by simp [Value.ownBlock]) hs (by omega)).mono ?_
  rintro e w' ⟨rfl, hos, hout, hsize, hkeep, g, cap, cur, hb2, hg2, hn2, hc2, ht2, hgo⟩
  obtain ⟨hd, htr0⟩ := hh.newDead 0
  have hil := (List.getElem?_eq_some_iff.1 hi).1
  have hgo' : w.heap.size ≤ g := by rcases hgo with h | h; · simp [Value.ownBlock] at h
                                    · exact h
  simp only [Nat.zero_add, List.nil_append] at hb2 hn2 ht2
  have hbld := HeapOK.bld (i := i) (j := σ.length) (gi := gi) (gj := 0) (T := TB) (U := TU) (oj := .dead 0) (rj := none) hd (Nat.ne_of_lt hil) (by rw [List.getElem?_append_left hil]; exact hi) rfl
    (by rw [List.getElem?_append_left (by rw [hh.len]; exact hil)]; exact hri) (by simp) rfl (by rw [← hh.len]; simp) hos hout hsize (fun k hk hkb _ => hkeep k hk hkb (by simp [Value.ownBlock])) (.inr hgo') hb2 (cur := cur.toList) (by simpa using hg2) hn2 (by simpa using hc2) (Lib.strCells s)
    (fun v hv => by simp only [Lib.strCells, List.mem_map] at hv; obtain ⟨_, _, rfl⟩ := hv; rfl) ht2
  obtain ⟨h1, h2⟩ := hbld
  have hσ : ((σ ++ [AObj.dead 0]).set σ.length (.tro (0 + 1) TU 1 ((Lib.strCells s).map .v))).set i (bldO i σ.length gi TB s.size (0 + 1)) = σ.set i (bldO i σ.length gi TB s.size 1) ++ [.tro 1 TU 1 ((Lib.strCells s).map .v)] := by
    exact set_push σ hil _ _ _
  rw [hσ] at h1 h2
  exact ⟨_, .tup [.v (.int .i64 s.size), .v .nilIface], _, _, rfl, h1, htr0.trans h2, ⟨[_, _], rfl, _, _, rfl, rfl, _, _, rfl, rfl, rfl⟩, rfl, rfl⟩

theorem bufAt_of {w : World} {L : LM} {b n sz : Nat} {xs zs ys : List Value} {v : Value} (hv : osAt (.here b 1 sz) 0 n v) (h0 : n ≠ 0) (hb : w.heap[b]? = some (.cells (zs ++ ys).toArray TU (0, 0))) (hsz : (zs ++ ys).length = sz) (hz : zs = xs) (hn : xs.length = n) :
    BufAt TU n xs v w ∧ ∃ cap, v = .slice (some ⟨b, 0, none⟩) n cap ∧ n ≤ cap ∧ cap ≤ (zs ++ ys).length := by
  rcases hv with ⟨cap, rfl, h1, h2⟩ | ⟨rfl, _⟩
  · simp only [Nat.zero_add, Nat.mul_one] at h2
    refine ⟨.inr ⟨b, cap, _, by simp, hb, h1, by simp only [List.size_toArray]; omega, by subst hz; simp [← hn]⟩, cap, by simp, h1, by omega⟩
  · exact absurd rfl h0

theorem writeString_more {i j gi gj n : Nat} {σ : Heap} {s : ByteArray} {xs : List Value} (hij : i ≠ j) (hi : σ[i]? = some (bldO i j gi TB n gj)) (hj : σ[j]? = some (.tro gj TU 1 (xs.map .v))) (hxs : ∀ v ∈ xs, cellV v = true) (hn : xs.length = n) (h0 : n ≠ 0)
    (hs : s.size ≠ 0) (hbytes : n + s.size ≤ 140737488355328) :
    ACalls Tryz.prog 24 [.ptr i gi 0 0, .v (.string s)] σ (fun r σ' => r = .tup [.v (.int .i64 s.size), .v .nilIface] ∧ σ' = (σ.set j (.tro (gj + 1) TU 1 ((xs ++ Lib.strCells s).map .v))).set i (bldO i j gi TB (n + s.size) (gj + 1))) := by
  refine ⟨Tryz.call24, fun vs w ρ hh hr => ?_⟩
  simp only [RepL, Rep] at hr
  obtain ⟨x, _, rfl, hx, y, _, rfl, rfl, rfl⟩ := hr
  obtain ⟨b, sz, xs1, ys, hl, hri, hb, ⟨hsz, hye⟩, hE⟩ := hh.tro hi
  obtain ⟨p, v, rfl, hp, hv⟩ := cells1 hE
  obtain ⟨g0, sz0, zs, ys0, hl0, hrj, hg0, ⟨hsz0, _⟩, hE0⟩ := hh.tro hj
  have hz := repE_map (fun v hv => by rw [cellV_cells (hxs v hv)]) hE0
  simp only [Rep, hl, hl0, ptrAt] at hp hv hx
  subst hp
  have hy : ys = [] := by rcases hye with h | h; · cases h
                          · exact h
  subst hy
  subst hx
  obtain ⟨hbuf, cap0, rfl, hnc0, hc0⟩ := bufAt_of (L := lm σ ρ) hv h0 hg0 hsz0 hz hn
  have hb' : w.heap[b]? = some (.cells #[.pointer (some ⟨b, 0, none⟩), .slice (some ⟨g0, 0, none⟩) n cap0] TB (0, 0)) := by simpa using hb
  have hbg : g0 ≠ b := fun e => hij (hh.inj i j b sz sz0 hri (e ▸ hrj))
  simp only [Nat.zero_mul, Nat.zero_add]
  refine (writeString_w b n _ _ xs s w hb' (.inr rfl) hbuf (by simp [Value.ownBlock, hbg]) hs hbytes).mono ?_
  rintro e w' ⟨rfl, hos, hout, hsize, hkeep, g, cap, cur, hb2, hg2, hn2, hc2, ht2, hgo⟩
  have hbld := HeapOK.bld (i := i) (j := j) (gi := gi) (gj := gj) (T := TB) (U := TU) hh hij hi rfl hri hj rfl hrj hos hout hsize (fun k hk hkb hkj => hkeep k hk hkb (fun e => hkj sz0 (by simp [Value.ownBlock] at e; rw [e])))
    (hgo.imp (fun h => ⟨sz0, by simp [Value.ownBlock] at h; rw [h]⟩) id) hb2 (cur := cur.toList) (by simpa using hg2) hn2 (by simpa using hc2) (xs ++ Lib.strCells s)
    (fun v hv => by
      rcases List.mem_append.1 hv with hv | hv
      · exact hxs v hv
      · simp only [Lib.strCells, List.mem_map] at hv; obtain ⟨_, _, rfl⟩ := hv; rfl) ht2
  obtain ⟨h1, h2⟩ := hbld
  exact ⟨_, .tup [.v (.int .i64 s.size), .v .nilIface], _, _, rfl, h1, h2, ⟨[_, _], rfl, _, _, rfl, rfl, _, _, rfl, rfl, rfl⟩, rfl, rfl⟩

theorem string_done {i j gi gj n : Nat} {σ : Heap} {l : List UInt8} (hij : i ≠ j) (hi : σ[i]? = some (bldO i j gi TB n gj)) (hj : σ[j]? = some (.tro gj TU 1 ((Lib.byteCells l).map .v))) (hn : l.length = n) (h0 : l ≠ []) (h63 : n ≤ 140737488355328) :
    ACalls Tryz.prog 28 [.ptr i gi 0 0] σ (fun r σ' => r = .v (.string ⟨l.toArray⟩) ∧ σ' = σ.set j (.dead gj)) := by
  have h0' : n ≠ 0 := by rw [← hn]; simpa using h0
  refine ⟨Tryz.call28, fun vs w ρ hh hr => ?_⟩
  simp only [RepL, Rep] at hr
  obtain ⟨x, _, rfl, hx, rfl⟩ := hr
  obtain ⟨b, sz, xs1, ys, hl, hri, hb, ⟨hsz, hye⟩, hE⟩ := hh.tro hi
  obtain ⟨p, v, rfl, hp, hv⟩ := cells1 hE
  obtain ⟨g0, sz0, zs, ys0, hl0, hrj, hg0, ⟨hsz0, _⟩, hE0⟩ := hh.tro hj
  have hz := repE_map (fun v hv => by simp only [Lib.byteCells, List.mem_map] at hv; obtain ⟨_, _, rfl⟩ := hv; rfl) hE0
  simp only [Rep, hl, hl0, ptrAt] at hp hv hx
  subst hp
  have hy : ys = [] := by rcases hye with h | h; · cases h
                          · exact h
  subst hy
  subst hx
  obtain ⟨hbuf, cap0, rfl, hnc0, hc0⟩ := bufAt_of (L := lm σ ρ) hv h0' hg0 hsz0 hz (by rw [Lib.byteCells_length]; exact hn)
  subst hn
  have hb' : w.heap[b]? = some (.cells #[.pointer (some ⟨b, 0, none⟩), .slice (some ⟨g0, 0, none⟩) l.length cap0] TB (0, 0)) := by simpa using hb
  simp only [Nat.zero_mul, Nat.zero_add]
  refine (string_w b g0 cap0 _ _ l w hb' hg0 hnc0 (by simpa using hc0) (by subst hz; simp [Lib.byteCells_length]) h0 (by omega)).mono ?_
  rintro e w' ⟨rfl, rfl⟩
  obtain ⟨z1, z2, z3, z4⟩ := freeze_w w.drew g0 l.length
  obtain ⟨h1, h2⟩ := hh.killW hj rfl (by simp) hrj (w' := w.drew.freeze ⟨g0, 0, none⟩ l.length) z1 z2 (Nat.le_of_eq z3.symm) (fun k hk hkg => z4 k hkg)
  exact ⟨_, .v (.string ⟨l.toArray⟩), _, _, rfl, h1, h2, rfl, rfl, rfl⟩

end Go.Proofs.YtdlekkhjkcbbnaaGreatDoor
