/- Contracts of functions, and what they rest on: libins libins2 libins3. -/
import Derived.Test.YtjlonhiojgljcaaGreatQ2
import Derived.Lib.Overlaps
import Derived.Laws.Externs
import Derived.Laws.IdiomCopy
import Derived.Lib.JoinLaws
import Derived.Lib.AppendZeros
import Derived.Lib.AppendZerosOnto
set_option linter.unusedVariables false
set_option linter.unusedSimpArgs false
set_option maxRecDepth 10000
set_option maxHeartbeats 4000000
namespace Go.Proofs.VI
open Go
/-- copy of elements of any number of cells: all is read before anything is written. -/
theorem run_copy_k {P : Program} (w : World) (dT sT ty elem : TypeId) (size : Nat) (b o dLen dCap : Nat) (a : Addr) (sLen sCap : Nat) (cs : List Value)
    (hu : P.underlying dT = some (.slice elem)) (hs : (P.info? elem).map (·.size) = some size) (hn : cs.length = Nat.min sLen dLen * size)
    (hsrc : ∀ j v, cs[j]? = some v → w.cell? (a.add j) = some v) (hc : ∀ j, j < cs.length → (w.cell? ⟨b, o + j, none⟩).isSome = true) (hf : ∀ j, j < cs.length → w.frozen? ⟨b, o + j, none⟩ = false) (h1 : ∀ v ∈ cs, v.oneCell' = true) :
    (Builtin.copy_ #[dT, sT] ty #[.slice (some ⟨b, o, none⟩) dLen dCap, .slice (some a) sLen sCap]).run P w = .ok (goInt (Nat.min sLen dLen : Nat)) (w.setCells b o cs) := by
  have hl := run_firstCells_some (P := P) w size (Nat.min sLen dLen) a sLen sCap cs hn hsrc
  have hst := run_storeCells_cells (P := P) b o cs 0 w (by simpa using hc) (by simpa using hf) h1
  simp only [Nat.add_zero] at hst
  cases hq : P.info? elem with
  | none => simp [hq] at hs
  | some i =>
    have hi : i.size = size := by simpa [hq] using hs
    simp [Builtin.copy_, run_underlying hu, Builtin.lenOf, sizeOf, typeInfo, hq, hi, hl, hst]
/-- THE OPERATION 'copy(d, s)', where its run is known by an equation. -/
theorem wp_copyR {P : Program} (w : World) {o : Oper} {a : Act} {K : Act → World → Prop} {Q : Exit → Act → World → Prop} (d s : Operand) (t t' : TypeId)
    (ho : o.op = .call { callee := .builtin .copy, args := #[d, s], argTypes := #[t, t'] }) (v u : Value) (hd : a.eval d = v) (hs : a.eval s = u) {v' : Value} {w' : World}
    (hr : (Builtin.copy_ #[t, t'] o.type #[v, u]).run P w = .ok v' w') (h : K (a.put o.dst v') w') : o.wp P a w K Q := by
  unfold Oper.wp execOp
  simp only [ho, resolve, invoke, builtin, Sem.run_bind, Sem.run_pure, Result.andThen_ok, List.map_toArray, List.map_cons, List.map_nil, hd, hs, hr]
  exact h
theorem wpList_copyR {P : Program} (w : World) {ops : Array Oper} {rest : List Oper} {o : Oper} {a : Act} {Q : Exit → Act → World → Prop} (hgd : o.guard = none) (d s : Operand) (t t' : TypeId)
    (ho : o.op = .call { callee := .builtin .copy, args := #[d, s], argTypes := #[t, t'] }) (v u : Value) (hd : a.eval d = v) (hs : a.eval s = u) {v' : Value} {w' : World}
    (hr : (Builtin.copy_ #[t, t'] o.type #[v, u]).run P w = .ok v' w') (h : wpList P ops Q rest (a.put o.dst v') w') : wpList P ops Q (o :: rest) a w :=
  wpList_plain hgd fun _ hK => wp_copyR w d s t t' ho v u hd hs hr (hK _ _ h)
theorem step_copyR {P : Program} {ops : Array Oper} {o : Oper} {a : Act} {w : World} {K : Act → World → Prop} {Q : Exit → Act → World → Prop} {E : Prop}
    (hg : o.guard = none) (d x : Operand) (dT sT : TypeId) (hop : o.op = Op.call { callee := Callee.builtin Builtin.copy, args := #[d, x], argTypes := #[dT, sT] })
    (v u : Value) (hd : a.eval d = v) (hx : a.eval x = u) {v' : Value} {w' : World} (hr : (Builtin.copy_ #[dT, sT] o.type #[v, u]).run P w = .ok v' w') (hK : K (a.put o.dst v') w') :
    if Region.wanted o (yielded ops a.tmps) = true then Oper.wp P o a w K Q else E := by
  have hw : Region.wanted o (yielded ops a.tmps) = true := by simp [Region.wanted, hg]
  rw [if_pos hw]
  unfold Oper.wp
  simp [execOp, hop, resolve, invoke, builtin, hd, hx, hr, Result.andThen]
  exact hK
theorem some_setCells (b : Nat) (vs : List Value) (o : Nat) (w : World) (h : ∀ j, j < vs.length → (w.cell? ⟨b, o + j, none⟩).isSome = true) (k : Nat) (hk : (w.cell? ⟨b, k, none⟩).isSome = true) : ((w.setCells b o vs).cell? ⟨b, k, none⟩).isSome = true := by
  by_cases hin : o ≤ k ∧ k < o + vs.length
  · have := World.cell?_setCells_in b vs o w h (k - o) (by omega)
    rw [show o + (k - o) = k by omega] at this
    rw [this]; rfl
  · rw [World.cell?_setCells_out b vs o w ⟨b, k, none⟩ (fun _ _ => by show k < o ∨ o + vs.length ≤ k; omega)]
    exact hk
open Go.RowKit Go.Lib in
set_option maxHeartbeats 4000000 in
set_option maxRecDepth 1000000 in
/-- There is room, and not at the end: in place. -/
theorem walk_ins_shift (b off n c i vb voff m vc : Nat) (cs vs : List Value) (w : World) (hi : i < n) (hm : 0 < m) (hroom : n + m ≤ c) (hn40 : n + m ≤ 1099511627777) (hvb : vb ≠ b)
    (hcl : cs.length = n * 2) (hvl : vs.length = m * 2)
    (hcs : ∀ j v, cs[j]? = some v → w.cell? ⟨b, off + j, none⟩ = some v) (hsp : ∀ j, j < (n + m) * 2 → (w.cell? ⟨b, off + j, none⟩).isSome = true) (hfz : ∀ j, j < (n + m) * 2 → w.frozen? ⟨b, off + j, none⟩ = false)
    (hvs : ∀ j v, vs[j]? = some v → w.cell? ⟨vb, voff + j, none⟩ = some v) (h1c : ∀ v ∈ cs, v.oneCell' = true) (h1v : ∀ v ∈ vs, v.oneCell' = true)
    (tA tB : TypeId) (kA kB : Nat) (hsa : w.shape? vb = some (tA, kA)) (hsb : w.shape? b = some (tB, kB)) (hkB : kB ≠ 0) (hfa : w.frozen? ⟨vb, voff, none⟩ = false) (hfe : w.frozen? ⟨vb, kA, none⟩ = false) :
    Calls Tryz.prog 104 #[.slice (some ⟨b, off, none⟩) n c, .int .i64 i, .slice (some ⟨vb, voff, none⟩) m vc] w fun e w' =>
      e = .returned (.slice (some ⟨b, off, none⟩) (n + m) c) ∧ w' = (w.drew.setCells b (off + (i + m) * 2) (cs.drop (i * 2))).setCells b (off + i * 2) vs := by
  have mixed : Tryz.prog.follows .mixedOrders = true := by kernel_rfl
  have t1 : Tryz.prog.underlying 28 = some (.slice 101) := rfl
  have hsz : (Tryz.prog.info? 101).map (·.size) = some 2 := rfl
  have hz1 : ¬ ((m : Int) = 0) := by omega
  have hz2 : ¬ ((i : Int) = (n : Int)) := by omega
  have hov : ∀ lb cb, (callFunc 169 #[.slice (some ⟨vb, voff, none⟩) m vc, .slice (some ⟨b, off + (i + m) * 2, none⟩) lb cb]).run Tryz.prog w = .ok (.value (.bool false)) w := fun lb cb => by
    rw [run_callFunc_extern Tryz.func169 (by kernel_rfl) (by kernel_rfl) (by kernel_rfl) (e := Extern.SlicesOverlaps.overlaps #[28, 28] #[4]) (by kernel_rfl),
      Lib.run_overlaps_apart w 28 4 101 t1 2 Tryz.sizeOf101 ⟨vb, voff, none⟩ ⟨b, off + (i + m) * 2, none⟩ m vc lb cb hvb tA tB kA kB hsa hsb hkB hfa hfe]
    rfl
  have hdl : (cs.drop (i * 2)).length = (n - i) * 2 := by rw [List.length_drop, hcl]; omega
  have hw1 : IntKind.i64.wrap ((i : Int) + (m : Int)) = (i : Int) + (m : Int) := by rw [IntKind.wrap_i64]; omega
  have hb1 : (0 : Int) ≤ (i : Int) + (m : Int) := by omega
  have hin : i ≤ n := by omega
  have htn : ((i : Int) + (m : Int)).toNat = i + m := by omega
  have hb2 : ¬ (c = i + m) := by omega
  have hb3 : (i : Int) ≤ (n : Int) + (m : Int) := by omega
  have hb4 : ¬ (c = i) := by omega
  have hmn1 : Nat.min (n + m - i) (n + m - (i + m)) = n - i := by simp only [Nat.min_def]; split <;> omega
  have hmn2 : Nat.min m (n + m - i) = m := by simp only [Nat.min_def]; split <;> omega
  have hcp1 : ∀ ty dc sc, (Builtin.copy_ #[28, 28] ty #[.slice (some ⟨b, off + (i + m) * 2, none⟩) (n + m - (i + m)) dc, .slice (some ⟨b, off + i * 2, none⟩) (n + m - i) sc]).run Tryz.prog w.drew = .ok (goInt (Nat.min (n + m - i) (n + m - (i + m)) : Nat)) (w.drew.setCells b (off + (i + m) * 2) (cs.drop (i * 2))) := fun ty dc sc =>
    run_copy_k w.drew _ _ ty 101 2 b (off + (i + m) * 2) (n + m - (i + m)) dc ⟨b, off + i * 2, none⟩ (n + m - i) sc (cs.drop (i * 2)) t1 hsz (by rw [hdl, hmn1])
      (fun j v hj => by rw [Addr.add_lit, Nat.add_assoc]; exact hcs (i * 2 + j) v (by rwa [List.getElem?_drop] at hj))
      (fun j hj => by rw [Nat.add_assoc]; exact hsp _ (by omega)) (fun j hj => by rw [Nat.add_assoc]; exact hfz _ (by omega)) (fun v hv => h1c v (List.mem_of_mem_drop hv))
  obtain ⟨W1, hW1⟩ : ∃ W1, W1 = w.drew.setCells b (off + (i + m) * 2) (cs.drop (i * 2)) := ⟨_, rfl⟩
  have hsp1 : ∀ k, k < (n + m) * 2 → (W1.cell? ⟨b, off + k, none⟩).isSome = true := fun k hk => by
    rw [hW1]
    exact some_setCells b _ _ _ (fun j hj => by rw [Nat.add_assoc]; exact hsp _ (by omega)) _ (hsp k hk)
  have hcp2 : ∀ (W : World), (∀ x, W.cell? x = W1.cell? x) → (∀ x, W.frozen? x = W1.frozen? x) → ∀ ty dc, (Builtin.copy_ #[28, 28] ty #[.slice (some ⟨b, off + i * 2, none⟩) (n + m - i) dc, .slice (some ⟨vb, voff, none⟩) m vc]).run Tryz.prog W = .ok (goInt (Nat.min m (n + m - i) : Nat)) (W.setCells b (off + i * 2) vs) := fun W hWc hWf ty dc =>
    run_copy_k W _ _ ty 101 2 b (off + i * 2) (n + m - i) dc ⟨vb, voff, none⟩ m vc vs t1 hsz (by rw [hvl, hmn2])
      (fun j v hj => by
        rw [Addr.add_lit, hWc, hW1, World.cell?_setCells_out b _ _ _ _ (fun h _ => absurd h hvb)]
        exact hvs j v hj)
      (fun j hj => by rw [hWc, Nat.add_assoc]; exact hsp1 _ (by omega)) (fun j hj => by rw [hWf, hW1, World.frozen?_setCells, Nat.add_assoc]; exact hfz _ (by omega)) h1v
  rw [← hW1] at hcp1
  go_enter Tryz.func104, Tryz.ntmps104
  go_wp2_with (simp only [hov])
  go_region_law_o (refine step_copyR rfl _ _ 28 28 rfl _ _ (by simp [Act.eval, Act.put]) (by simp [Act.eval, Act.put]) (hcp1 _ _ _) ?_)
  go_wp2_with (at_builtin; refine wpList_copyR _ rfl _ _ 28 28 rfl _ _ rfl rfl (hcp2 _ (fun _ => rfl) (fun _ => rfl) _ _) ?_)
  go_ret
  first | exact ⟨rfl, rfl⟩ | exact ⟨rfl, by rw [hW1]⟩
open Go.RowKit Go.Lib in
set_option maxHeartbeats 4000000 in
set_option maxRecDepth 1000000 in
/-- At the end, and there is room. -/
theorem walk_ins_room (b off n c vb voff m vc : Nat) (vs : List Value) (w : World) (hm : 0 < m) (hroom : n + m ≤ c) (hn40 : n + m ≤ 1099511627777)
    (hvl : vs.length = m * 2) (hsp : ∀ j, j < m * 2 → (w.cell? ⟨b, off + n * 2 + j, none⟩).isSome = true) (hfz : ∀ j, j < m * 2 → w.frozen? ⟨b, off + n * 2 + j, none⟩ = false)
    (hvs : ∀ j v, vs[j]? = some v → w.cell? ⟨vb, voff + j, none⟩ = some v) (h1v : ∀ v ∈ vs, v.oneCell' = true) :
    Calls Tryz.prog 104 #[.slice (some ⟨b, off, none⟩) n c, .int .i64 n, .slice (some ⟨vb, voff, none⟩) m vc] w fun e w' =>
      e = .returned (.slice (some ⟨b, off, none⟩) (n + m) c) ∧ w' = w.setCells b (off + n * 2) vs := by
  have mixed : Tryz.prog.follows .mixedOrders = true := by kernel_rfl
  have t1 : Tryz.prog.underlying 28 = some (.slice 101) := rfl
  obtain ⟨i0, hi0, hzs⟩ : ∃ i0, Tryz.prog.info? 101 = some i0 ∧ i0.size = 2 := ⟨_, rfl, rfl⟩
  have hz1 : ¬ ((m : Int) = 0) := by omega
  have hsrc : Src Tryz.prog i0.size 28 (.slice (some ⟨vb, voff, none⟩) m vc) m vs w := by
    rw [hzs]
    exact Src.ofSlice w t1 ⟨vb, voff, none⟩ m vc vs hvl (fun j u hj => by rw [Addr.add_lit]; exact hvs j u hj) h1v
  go_enter Tryz.func104, Tryz.ntmps104
  go_wp2_with (at_builtin; refine wpList_append_room_src _ rfl _ _ 28 28 rfl 101 i0 t1 hi0 b off n c rfl _ rfl m vs hsrc hroom (by rw [hvl, hzs]; exact hsp) (by rw [hvl, hzs]; exact hfz) ?_)
  go_ret
  exact ⟨rfl, rfl⟩
open Go.RowKit Go.Lib in
set_option maxHeartbeats 4000000 in
set_option maxRecDepth 1000000 in
/-- At the end, and there is no room: a new row. -/
theorem walk_ins_new (base : Option Addr) (n c vb voff m vc : Nat) (cs vs : List Value) (w : World) (hm : 0 < m) (hnc : n ≤ c) (hroom : c < n + m) (hbig : (n + m) * 40 ≤ 140737488355328)
    (hcl : cs.length = n * 2) (hvl : vs.length = m * 2) (hnil : base = none → n = 0)
    (hcs : ∀ a, base = some a → ∀ j v, cs[j]? = some v → w.cell? (a.add j) = some v)
    (hvs : ∀ j v, vs[j]? = some v → w.cell? ⟨vb, voff + j, none⟩ = some v) (h1v : ∀ v ∈ vs, v.oneCell' = true) :
    Calls Tryz.prog 104 #[.slice base n c, .int .i64 n, .slice (some ⟨vb, voff, none⟩) m vc] w fun e w' =>
      e = .returned (.slice (some ⟨w.heap.size, 0, none⟩) (n + m) (grownCap w (n + m) c 101)) ∧
      w' = w.drew.alloc (.cells ((cs ++ vs).toArray ++ Builtin.zeroCells #[.string ⟨#[]⟩, .slice none 0 0] (grownCap w (n + m) c 101 - (n + m))) 101) := by
  have mixed : Tryz.prog.follows .mixedOrders = true := by kernel_rfl
  have t1 : Tryz.prog.underlying 28 = some (.slice 101) := rfl
  obtain ⟨i0, hi0, hz0, hzs, hzb⟩ : ∃ i0, Tryz.prog.info? 101 = some i0 ∧ i0.zero = some (.agg #[.string ⟨#[]⟩, .slice none 0 0]) ∧ i0.size = 2 ∧ i0.bytes = 40 := ⟨_, rfl, rfl, rfl, rfl⟩
  have hz1 : ¬ ((m : Int) = 0) := by omega
  have hsrc : Src Tryz.prog i0.size 28 (.slice (some ⟨vb, voff, none⟩) m vc) m vs w := by
    rw [hzs]
    exact Src.ofSlice w t1 ⟨vb, voff, none⟩ m vc vs hvl (fun j u hj => by rw [Addr.add_lit]; exact hvs j u hj) h1v
  have hold : (Builtin.firstCells i0.size n (.slice base n c)).run Tryz.prog w.drew = .ok cs.toArray w.drew := by
    rw [hzs]
    cases base with
    | none =>
      have h0 := hnil rfl
      subst h0
      have hc0 : cs = [] := List.length_eq_zero_iff.1 (by simpa using hcl)
      rw [hc0]
      exact run_firstCells_none w.drew 2 0 0 c
    | some a => exact run_firstCells_some w.drew 2 n a n c cs hcl (fun j v hj => hcs a rfl j v hj)
  have hrun : ∀ ty, (Builtin.append_ #[28, 28] ty #[.slice base n c, .slice (some ⟨vb, voff, none⟩) m vc]).run Tryz.prog w = .ok (.slice (some ⟨w.heap.size, 0, none⟩) (n + m) (grownCap w (n + m) c 101)) (w.drew.alloc (.cells ((cs ++ vs).toArray ++ Builtin.zeroCells #[.string ⟨#[]⟩, .slice none 0 0] (grownCap w (n + m) c 101 - (n + m))) 101)) := fun ty =>
    run_append_grow_src w 28 28 ty 101 i0 _ t1 hi0 hz0 base n c cs hold _ m vs hsrc hroom (by omega) (by rw [hzb]; exact growslice_fits hroom hbig)
  go_enter Tryz.func104, Tryz.ntmps104
  cases base with
  | none =>
    have h0 := hnil rfl
    subst h0
    go_wp2_with (at_builtin; refine Lib.wpList_append_run _ rfl _ _ _ _ rfl _ _ rfl rfl _ _ (hrun _) ?_)
    go_ret
    exact ⟨rfl, rfl⟩
  | some a =>
    obtain ⟨ab, ao, asp⟩ := a
    go_wp2_with (at_builtin; refine Lib.wpList_append_run _ rfl _ _ _ _ rfl _ _ rfl rfl _ _ (hrun _) ?_)
    all_goals (go_ret; exact ⟨rfl, rfl⟩)
open Go.RowKit Go.Lib in
set_option maxHeartbeats 4000000 in
set_option maxRecDepth 1000000 in
/-- Not at the end, and there is no room: a new row. -/
theorem walk_ins_grow (b off n c i vb voff m vc : Nat) (cs vs : List Value) (w : World) (hi : i < n) (hm : 0 < m) (hnc : n ≤ c) (hroom : c < n + m) (hbig : (n + m) * 40 ≤ 140737488355328)
    (hcl : cs.length = n * 2) (hvl : vs.length = m * 2)
    (hcs : ∀ j v, cs[j]? = some v → w.cell? ⟨b, off + j, none⟩ = some v)
    (hvs : ∀ j v, vs[j]? = some v → w.cell? ⟨vb, voff + j, none⟩ = some v) (h1c : ∀ v ∈ cs, v.oneCell' = true) (h1v : ∀ v ∈ vs, v.oneCell' = true) :
    Calls Tryz.prog 104 #[.slice (some ⟨b, off, none⟩) n c, .int .i64 i, .slice (some ⟨vb, voff, none⟩) m vc] w fun e w' =>
      e = .returned (.slice (some ⟨w.heap.size, 0, none⟩) (n + m) (grownCap w (n + m) c 101)) ∧
      w' = (((w.alloc (.cells ((cs.take (i * 2)).toArray ++ Builtin.zeroCells #[.string ⟨#[]⟩, .slice none 0 0] (n + m - i) ++ Builtin.zeroCells #[.string ⟨#[]⟩, .slice none 0 0] (grownCap w (n + m) c 101 - (n + m))) 101)).drew.setCells w.heap.size (i * 2) vs).drew).setCells w.heap.size ((i + m) * 2) (cs.drop (i * 2)) := by
  have mixed : Tryz.prog.follows .mixedOrders = true := by kernel_rfl
  have t1 : Tryz.prog.underlying 28 = some (.slice 101) := rfl
  have t2 : Tryz.prog.underlying 3 = some (.int .i64) := rfl
  have hsz : (Tryz.prog.info? 101).map (·.size) = some 2 := rfl
  obtain ⟨i0, hi0, hz0, hzs, hzb⟩ : ∃ i0, Tryz.prog.info? 101 = some i0 ∧ i0.zero = some (.agg #[.string ⟨#[]⟩, .slice none 0 0]) ∧ i0.size = 2 ∧ i0.bytes = 40 := ⟨_, rfl, rfl, rfl, rfl⟩
  have hz1 : ¬ ((m : Int) = 0) := by omega
  have hz2 : ¬ ((i : Int) = (n : Int)) := by omega
  have hz3 : (c : Int) < (n : Int) + (m : Int) := by omega
  have hbw : b < w.heap.size := block_lt_of_cell (hcs 0 _ (List.getElem?_eq_getElem (by omega)))
  have hvw : vb < w.heap.size := block_lt_of_cell (hvs 0 _ (List.getElem?_eq_getElem (by omega)))
  have hkk : (n : Int) + (m : Int) - (i : Int) = ((n + m - i : Nat) : Int) := by omega
  have hik : i + (n + m - i) = n + m := by omega
  have hold : (Builtin.firstCells i0.size i (.slice (some ⟨b, off, none⟩) i c)).run Tryz.prog w.drew = .ok (cs.take (i * 2)).toArray w.drew := by
    rw [hzs]
    exact run_firstCells_some w.drew 2 i ⟨b, off, none⟩ i c (cs.take (i * 2)) (by rw [List.length_take]; omega) (fun j v hj => by
      rw [Addr.add_lit]
      rw [List.getElem?_take] at hj
      split at hj
      · exact hcs j v hj
      · cases hj)
  have hrz : ∀ ty, (Builtin.append_ #[28, 3] ty #[.slice (some ⟨b, off, none⟩) i c, .int .i64 ((n : Int) + (m : Int) - (i : Int))]).run Tryz.prog w =
      .ok (.slice (some ⟨w.heap.size, 0, none⟩) (n + m) (grownCap w (n + m) c 101)) (w.drew.alloc (.cells ((cs.take (i * 2)).toArray ++ Builtin.zeroCells #[.string ⟨#[]⟩, .slice none 0 0] (n + m - i) ++ Builtin.zeroCells #[.string ⟨#[]⟩, .slice none 0 0] (grownCap w (n + m) c 101 - (n + m))) 101)) := fun ty => by
    have h := Lib.run_append_grow_zeros w 28 3 ty 101 i0 _ .i64 .i64 t1 t2 hi0 hz0 (some ⟨b, off, none⟩) i c (cs.take (i * 2)) hold (n + m - i) (by omega) (by omega) (by omega) (by omega) (by rw [hzb]; omega) (by rw [hzb, hik]; exact growslice_fits hroom hbig)
    rw [hik] at h
    rw [hkk]
    exact h
  obtain ⟨G, hG⟩ : ∃ G, G = grownCap w (n + m) c 101 := ⟨_, rfl⟩
  obtain ⟨ROW, hROW⟩ : ∃ ROW : Array Value, ROW = (cs.take (i * 2)).toArray ++ Builtin.zeroCells #[.string ⟨#[]⟩, .slice none 0 0] (n + m - i) ++ Builtin.zeroCells #[.string ⟨#[]⟩, .slice none 0 0] (G - (n + m)) := ⟨_, rfl⟩
  rw [← hG] at hrz ⊢
  rw [← hROW] at hrz ⊢
  have hRl : (n + m) * 2 ≤ ROW.size := by
    rw [hROW]
    simp [Builtin.zeroCells]
    omega
  obtain ⟨W1, hW1⟩ : ∃ W1, W1 = w.drew.alloc (.cells ROW 101) := ⟨_, rfl⟩
  rw [← hW1] at hrz
  have hN : ∀ j, j < (n + m) * 2 → (W1.cell? ⟨w.heap.size, j, none⟩).isSome = true := fun j hj => by
    rw [hW1, World.cell?_alloc_at (w := w.drew) ROW _ w.heap.size j rfl, Array.getElem?_eq_getElem (by omega)]; rfl
  have hNf : ∀ j, W1.frozen? ⟨w.heap.size, j, none⟩ = false := fun j => by rw [hW1]; exact World.frozen?_alloc_at (w := w.drew) ROW _ w.heap.size j rfl
  have hOb : ∀ j v, w.cell? ⟨b, j, none⟩ = some v → W1.cell? ⟨b, j, none⟩ = some v := fun j v h => by rw [hW1, World.cell?_alloc_past (w := w.drew) _ b j hbw]; exact h
  have hOv : ∀ j v, w.cell? ⟨vb, j, none⟩ = some v → W1.cell? ⟨vb, j, none⟩ = some v := fun j v h => by rw [hW1, World.cell?_alloc_past (w := w.drew) _ vb j hvw]; exact h
  have hmn1 : Nat.min (n - i) (n + m - (i + m)) = n - i := by simp only [Nat.min_def]; split <;> omega
  have hmn2 : Nat.min m (n + m - i) = m := by simp only [Nat.min_def]; split <;> omega
  have hcpA : ∀ (W : World), (∀ x, W.cell? x = W1.cell? x) → (∀ x, W.frozen? x = W1.frozen? x) → ∀ ty dc, (Builtin.copy_ #[28, 28] ty #[.slice (some ⟨w.heap.size, i * 2, none⟩) (n + m - i) dc, .slice (some ⟨vb, voff, none⟩) m vc]).run Tryz.prog W = .ok (goInt (Nat.min m (n + m - i) : Nat)) (W.setCells w.heap.size (i * 2) vs) := fun W hWc hWf ty dc =>
    run_copy_k W _ _ ty 101 2 w.heap.size (i * 2) (n + m - i) dc ⟨vb, voff, none⟩ m vc vs t1 hsz (by rw [hvl, hmn2])
      (fun j v hj => by rw [Addr.add_lit, hWc]; exact hOv _ v (hvs j v hj))
      (fun j hj => by rw [hWc]; exact hN _ (by omega)) (fun j hj => by rw [hWf]; exact hNf _) h1v
  have hGn : n + m ≤ G := by rw [hG]; exact grownCap_ge w _ _ _
  have hG63 : G ≤ 9223372036854775807 := by
    have := grownCap_le_maxLen w (n + m) c 101 (by unfold maxLen; omega)
    rw [← hG] at this
    unfold maxLen at this
    omega
  have hGi : ¬ (G = i) := by omega
  have hGim : ¬ (G = i + m) := by omega
  have hci : ¬ (c = i) := by omega
  have hbN : b ≠ w.heap.size := by omega
  have hdl : (cs.drop (i * 2)).length = (n - i) * 2 := by rw [List.length_drop, hcl]; omega
  have hcpB : ∀ (W : World), (∀ x, W.cell? x = (W1.setCells w.heap.size (i * 2) vs).cell? x) → (∀ x, W.frozen? x = (W1.setCells w.heap.size (i * 2) vs).frozen? x) → ∀ ty dc sc, (Builtin.copy_ #[28, 28] ty #[.slice (some ⟨w.heap.size, (i + m) * 2, none⟩) (n + m - (i + m)) dc, .slice (some ⟨b, off + i * 2, none⟩) (n - i) sc]).run Tryz.prog W = .ok (goInt (Nat.min (n - i) (n + m - (i + m)) : Nat)) (W.setCells w.heap.size ((i + m) * 2) (cs.drop (i * 2))) := fun W hWc hWf ty dc sc =>
    run_copy_k W _ _ ty 101 2 w.heap.size ((i + m) * 2) (n + m - (i + m)) dc ⟨b, off + i * 2, none⟩ (n - i) sc (cs.drop (i * 2)) t1 hsz (by rw [hdl, hmn1])
      (fun j v hj => by
        rw [Addr.add_lit, hWc, World.cell?_setCells_out _ _ _ _ _ (fun h _ => absurd h hbN), Nat.add_assoc]
        exact hOb _ v (hcs (i * 2 + j) v (by rwa [List.getElem?_drop] at hj)))
      (fun j hj => by rw [hWc]; exact some_setCells _ _ _ _ (fun t ht => hN _ (by omega)) _ (hN _ (by omega)))
      (fun j hj => by rw [hWf, World.frozen?_setCells]; exact hNf _) (fun v hv => h1c v (List.mem_of_mem_drop hv))
  subst hW1
  have hE1 : ∀ x, ((w.alloc (.cells ROW 101)).drew).cell? x = (w.drew.alloc (.cells ROW 101)).cell? x := fun x => rfl
  have hE2 : ∀ x, ((w.alloc (.cells ROW 101)).drew).frozen? x = (w.drew.alloc (.cells ROW 101)).frozen? x := fun x => rfl
  have hF1 : ∀ x, (((w.alloc (.cells ROW 101)).drew.setCells w.heap.size (i * 2) vs).drew).cell? x = ((w.drew.alloc (.cells ROW 101)).setCells w.heap.size (i * 2) vs).cell? x := fun x => rfl
  have hF2 : ∀ x, (((w.alloc (.cells ROW 101)).drew.setCells w.heap.size (i * 2) vs).drew).frozen? x = ((w.drew.alloc (.cells ROW 101)).setCells w.heap.size (i * 2) vs).frozen? x := fun x => rfl
  have hw1 : IntKind.i64.wrap ((i : Int) + (m : Int)) = (i : Int) + (m : Int) := by rw [IntKind.wrap_i64]; omega
  have hb1 : (0 : Int) ≤ (i : Int) + (m : Int) := by omega
  have hin : i ≤ n := by omega
  have htn : ((i : Int) + (m : Int)).toNat = i + m := by omega
  have hb3 : (i : Int) ≤ (n : Int) := by omega
  clear hkk hik hold hROW hG hRl
  go_enter Tryz.func104, Tryz.ntmps104
  go_wp2_with (first
    | (at_builtin; refine Lib.wpList_append_run _ rfl _ _ _ _ rfl _ _ rfl rfl _ _ (hrz _) ?_)
    | (at_builtin; refine wpList_copyR _ rfl _ _ 28 28 rfl _ _ rfl rfl (hcpA _ hE1 hE2 _ _) ?_)
    | (at_builtin; refine wpList_copyR _ rfl _ _ 28 28 rfl _ _ rfl rfl (hcpB _ (fun _ => rfl) (fun _ => rfl) _ _ _) ?_))
  go_region_law_o (refine step_copyR rfl _ _ 28 28 rfl (.slice (some ⟨w.heap.size, (i + m) * 2, none⟩) (n + m - (i + m)) (G - (i + m))) (.slice (some ⟨b, off + i * 2, none⟩) (n - i) (c - i)) (by simp [Act.eval, Act.put]) (by simp [Act.eval, Act.put]) (hcpB _ hF1 hF2 3 (G - (i + m)) (c - i)) ?_)
  go_wp2
  go_ret
  exact ⟨rfl, rfl⟩
structure InsEnd (w w' : World) (B off cap : Nat) (F : List Value) : Prop where
  os : w'.os = w.os
  tape : w'.tape = w.tape
  output : w'.output = w.output
  size : w.heap.size ≤ w'.heap.size
  other : ∀ x, x < w.heap.size → x ≠ B → w'.heap[x]? = w.heap[x]?
  keep : ∀ C t fr, w.heap[B]? = some (.cells C t fr) → ∃ C', w'.heap[B]? = some (.cells C' t fr) ∧ C'.size = C.size
  blk : ∃ C' t fr, w'.heap[B]? = some (.cells C' t fr) ∧ freeC 2 C' fr ∧ off + cap * 2 ≤ C'.size ∧ ∀ (j : Nat) v, F[j]? = some v → C'[off + j]? = some v
theorem ins_rel {w w' : World} {κ : Gh} {L : List GLibMod} {m : GLibMod} {i B off cap : Nat} {F : List Value} (hi : i ≤ L.length) (hcap : L.length + 1 ≤ cap)
    (hlow : ∀ b g, κ b = some g → b < w.heap.size) (hfr : ∀ b id p, κ b = some (.key (id, p)) → id < 3) (hB : B = w.heap.size ∨ κ B = some (.key (0, []))) (hE : InsEnd w w' B off cap F)
    (hc : ∀ r (hr : r < L.length), ∃ v, relV w κ noL (some (0, [(r, 1)])) (.ow 1 (GByte.ows L[r].b)) v ∧ F[(if r < i then r else r + 1) * 2]? = some (.string L[r].name) ∧ F[(if r < i then r else r + 1) * 2 + 1]? = some v)
    (hm : ∃ v, relV w κ noL (some (2, [(0, 1)])) (.ow 1 (GByte.ows m.b)) v ∧ F[i * 2]? = some (.string m.name) ∧ F[i * 2 + 1]? = some v) :
    ∃ κ', relV w' κ' noL (some (3, [])) (.ow 2 (GLibMod.ows (L.take i ++ m :: L.drop i))) (.slice (some ⟨B, off, none⟩) (L.length + 1) cap) ∧ Stp κ w κ' w' ∧ (∀ b g, κ' b = some g → b < w'.heap.size) ∧ (∀ b id p, κ' b = some (.key (id, p)) → id ≤ 3) := by
  have hlen' : (GLibMod.ows (L.take i ++ m :: L.drop i)).length = L.length + 1 := by simp; omega
  obtain ⟨C', t, fr, hb', hf', hsz', hF⟩ := hE.blk
  have hBlt : B < w'.heap.size := (Array.getElem?_eq_some_iff.1 hb').1
  have hBnot : ∀ b' K, κ b' = some (.key K) → K ≠ (0, []) → b' ≠ B := fun b' K h1 h2 e => by
    rcases hB with e2 | e2
    · have := hlow b' _ h1; omega
    · rw [e, e2] at h1; injection h1 with h1; injection h1 with h1; exact h2 h1.symm
  have hBi : ∀ b', κ b' = some .imm → b' ≠ B := fun b' h1 e => by
    rcases hB with e2 | e2
    · have := hlow b' _ h1; omega
    · rw [e, e2] at h1; cases h1
  let κ' : Gh := fun b' => if b' = B then some (.key (3, [])) else match κ b' with
    | some (.key (0, (r, c) :: p)) => if r < i then some (.key (3, (r, c) :: p)) else some (.key (3, (r + 1, c) :: p))
    | some (.key (2, (0, c) :: p)) => some (.key (3, (i, c) :: p))
    | x => x
  have hκ0 : κ' B = some (.key (3, [])) := if_pos rfl
  have hκl : ∀ b' r c p, r < i → κ b' = some (.key (0, (r, c) :: p)) → κ' b' = some (.key (3, (r, c) :: p)) := fun b' r c p hr h => by
    simp only [κ', if_neg (hBnot b' _ h (by simp)), h, if_pos hr]
  have hκg : ∀ b' r c p, i ≤ r → κ b' = some (.key (0, (r, c) :: p)) → κ' b' = some (.key (3, (r + 1, c) :: p)) := fun b' r c p hr h => by
    simp only [κ', if_neg (hBnot b' _ h (by simp)), h, if_neg (show ¬ r < i by omega)]
  have hκm : ∀ b' c p, κ b' = some (.key (2, (0, c) :: p)) → κ' b' = some (.key (3, (i, c) :: p)) := fun b' c p h => by
    simp only [κ', if_neg (hBnot b' _ h (by simp)), h]
  have hκn : ∀ b', b' < w.heap.size → κ b' = none → κ' b' = none := fun b' hlt h => by
    have hne : b' ≠ B := fun e => by
      rcases hB with e2 | e2
      · omega
      · rw [e, e2] at h; cases h
    simp only [κ', if_neg hne, h]
  have hκi : ∀ b', κ b' = some .imm → κ' b' = some .imm := fun b' h => by simp only [κ', if_neg (hBi b' h), h]
  have hκs : ∀ b' g, κ' b' = some g → b' = B ∨ ∃ g', κ b' = some g' := fun b' g h => by
    by_cases e : b' = B
    · exact .inl e
    · right
      simp only [κ', if_neg e] at h
      cases e2 : κ b' with
      | none => rw [e2] at h; cases h
      | some g' => exact ⟨g', rfl⟩
  have hκk : ∀ b' id p, κ' b' = some (.key (id, p)) → id ≤ 3 := fun b' id p h => by
    by_cases e : b' = B
    · rw [e, hκ0] at h
      injection h with h; injection h with h; injection h with h _; omega
    · simp only [κ', if_neg e] at h
      split at h
      · split at h
        · injection h with h; injection h with h; injection h with h _; omega
        · injection h with h; injection h with h; injection h with h _; omega
      · injection h with h; injection h with h; injection h with h _; omega
      · have := hfr b' id p h; omega
  have hI : ImmMap w w' κ κ' := fun b' h => ⟨hκi b' h, hE.other b' (hlow b' _ h) (hBi b' h)⟩
  refine ⟨κ', ⟨_, cap, by rw [hlen'], by rw [hlen']; exact hcap, .inr ⟨B, off, C', t, fr, rfl, hb', hf', hκ0, hsz', ?_⟩⟩, ?_, fun b' g hg => ?_, hκk⟩
  · refine relRs_mk fun r row hrow => ?_
    have cell : ∀ (x : GLibMod) (v : Value) (K : Key), row = GLibMod.ow x → F[r * 2]? = some (.string x.name) → F[r * 2 + 1]? = some v → relV w κ noL (some K) (.ow 1 (GByte.ows x.b)) v → KeyMap w w' κ κ' (some K) (some (3, [(r, 1)])) → row.length = 2 ∧ relRow w' κ' (some (3, [])) (0 + r) 0 row C' (off + r * 2) := fun x v K e c0 c1 hrel hk => by
      subst e
      refine ⟨rfl, relRow_mk fun j y hj => ?_⟩
      rcases j with _ | _ | j
      · have e : y = .str x.name := (Option.some.inj hj).symm
        subst e
        exact ⟨_, hF _ _ c0, rfl⟩
      · have e : y = .ow 1 (GByte.ows x.b) := (Option.some.inj hj).symm
        subst e
        refine ⟨v, by rw [Nat.add_assoc]; exact hF _ _ c1, ?_⟩
        have := relV_move hI (fun _ _ h => h) (.ow 1 (GByte.ows x.b)) _ _ v hk hrel
        simpa [kid] using this
      · cases hj
    have hrow : ((L.take i ++ m :: L.drop i)[r]?).map GLibMod.ow = some row := by rw [← hrow]; exact (List.getElem?_map ..).symm
    have htl : (L.take i).length = i := by rw [List.length_take]; omega
    rcases Nat.lt_trichotomy r i with h | h | h
    · rw [List.getElem?_append_left (by omega), List.getElem?_take, if_pos h, List.getElem?_eq_getElem (by omega)] at hrow
      obtain ⟨v, hrel, c0, c1⟩ := hc r (by omega)
      rw [if_pos h] at c0 c1
      exact cell L[r] v (0, [(r, 1)]) (Option.some.inj hrow).symm c0 c1 hrel ⟨_, rfl, fun p b' hb2 => ⟨hκl b' r 1 p h hb2, hE.other b' (hlow b' _ hb2) (hBnot b' _ hb2 (by simp))⟩⟩
    · subst h
      rw [List.getElem?_append_right (by omega), htl, Nat.sub_self, List.getElem?_cons_zero] at hrow
      obtain ⟨v, hrel, c0, c1⟩ := hm
      exact cell m v (2, [(0, 1)]) (Option.some.inj hrow).symm c0 c1 hrel ⟨_, rfl, fun p b' hb2 => ⟨hκm b' 1 p hb2, hE.other b' (hlow b' _ hb2) (hBnot b' _ hb2 (by simp))⟩⟩
    · obtain ⟨q, rfl⟩ : ∃ q, r = q + 1 := ⟨r - 1, by omega⟩
      rw [List.getElem?_append_right (by omega), htl, show q + 1 - i = (q - i) + 1 by omega, List.getElem?_cons_succ, List.getElem?_drop, show i + (q - i) = q by omega] at hrow
      have hq : q < L.length := by
        cases e : L[q]? with
        | none => rw [e] at hrow; cases hrow
        | some x => exact (List.getElem?_eq_some_iff.1 e).1
      rw [List.getElem?_eq_getElem hq] at hrow
      obtain ⟨v, hrel, c0, c1⟩ := hc q hq
      rw [if_neg (by omega)] at c0 c1
      exact cell L[q] v (0, [(q, 1)]) (Option.some.inj hrow).symm c0 c1 hrel ⟨_, rfl, fun p b' hb2 => ⟨hκg b' q 1 p (by omega) hb2, hE.other b' (hlow b' _ hb2) (hBnot b' _ hb2 (by simp))⟩⟩
  · refine ⟨hE.os, hE.tape, hE.output, hE.size, fun b' hlt hno => hE.other b' hlt fun e => ?_, hκi, hκn, fun b' C1 t1 fr1 hc1 => ?_⟩
    · rcases hB with e2 | e2
      · omega
      · exact hno _ (e ▸ e2)
    · by_cases e : b' = B
      · subst e; exact hE.keep C1 t1 fr1 hc1
      · exact ⟨C1, by rw [hE.other b' (Array.getElem?_eq_some_iff.1 hc1).1 e]; exact hc1, rfl⟩
  · rcases hκs b' g hg with e | ⟨g', h⟩
    · rw [e]; exact hBlt
    · exact Nat.lt_of_lt_of_le (hlow b' g' h) hE.size
/-- Cells of a row that are stored over. -/
theorem ins_put {w : World} {b off cap : Nat} {C : Array Value} {t : TypeId} {fr : Nat × Nat} (hb : w.heap[b]? = some (.cells C t fr)) (hf : freeC 2 C fr) (hsz : off + cap * 2 ≤ C.size) (d : Array Value) (q : Nat) {F : List Value} (hF : ∀ (j : Nat) v, F[j]? = some v → j < d.size ∧ d[j]! = v) (hd : off + d.size ≤ C.size) :
    InsEnd w (Go.Sort.putRow id (Go.Sort.ahead w q) b off d) b off cap F := by
  have hbl : b < w.heap.size := (Array.getElem?_eq_some_iff.1 hb).1
  have hE := rowEnd_put id w q b off d #[] hbl
  rw [Go.Sort.grow_empty] at hE
  refine ⟨hE.os, hE.tape, hE.output, hE.size, fun x hx hne => hE.other x hx hne, fun C1 t1 fr1 h => ?_, ?_⟩
  · obtain ⟨C', h1, h2, _⟩ := hE.row C1 t1 fr1 h
    exact ⟨C', h1, h2⟩
  · obtain ⟨C', h1, h2, h3⟩ := hE.row C t fr hb
    refine ⟨C', t, fr, h1, ⟨fun j hj => hf.1 j (by omega), fun hk => by rw [h2]; exact hf.2 hk⟩, by omega, fun j v hj => ?_⟩
    obtain ⟨hj1, hj2⟩ := hF j v hj
    rw [h3 j hj1 (by omega)]
    exact congrArg some hj2
theorem end_new (w : World) (C' : Array Value) (t : TypeId) (cap : Nat) {F : List Value} (hs : cap * 2 ≤ C'.size) (hF : ∀ (j : Nat) v, F[j]? = some v → C'[j]? = some v) : InsEnd w (w.drew.alloc (.cells C' t)) w.heap.size 0 cap F := by
  refine ⟨rfl, rfl, rfl, by show w.heap.size ≤ (w.heap.push _).size; rw [Array.size_push]; omega, fun x hx hne => ?_, fun C t fr h => ?_, ⟨C', t, (0, 0), ?_, freeC_none _ _, by omega, fun j v hj => by rw [Nat.zero_add]; exact hF j v hj⟩⟩
  · show (w.heap.push _)[x]? = _
    rw [Array.getElem?_push, if_neg (by omega)]
  · rw [Array.getElem?_eq_none (Nat.le_refl _)] at h; cases h
  · show (w.heap.push _)[w.heap.size]? = _
    rw [Array.getElem?_push, if_pos rfl]
/-- After a row was laid, what is stored into it. -/
theorem end_laid {w w' : World} {ROW : Array Value} {t : TypeId} {cap : Nat} {F : List Value} (h : InsEnd (w.alloc (.cells ROW t)) w' w.heap.size 0 cap F) : InsEnd w w' w.heap.size 0 cap F := by
  have e : ∀ x, x ≠ w.heap.size → (w.alloc (.cells ROW t)).heap[x]? = w.heap[x]? := fun x hx => by
    show (w.heap.push _)[x]? = _
    rw [Array.getElem?_push, if_neg hx]
  have hs : (w.alloc (.cells ROW t)).heap.size = w.heap.size + 1 := Array.size_push _
  refine ⟨h.os, h.tape, h.output, by have := h.size; omega, fun x hx hne => (h.other x (by omega) hne).trans (e x hne), fun C t fr hc => ?_, h.blk⟩
  rw [Array.getElem?_eq_none (Nat.le_refl _)] at hc; cases hc
theorem ofFn_get (C : Array Value) (off n : Nat) (h : off + n ≤ C.size) (j : Nat) : (List.ofFn (n := n) fun t => C[off + t.1]!)[j]? = if j < n then C[off + j]? else none := by
  rw [List.getElem?_ofFn]
  by_cases hj : j < n
  · rw [if_pos hj, dif_pos hj, getElem!_pos C (off + j) (by omega), Array.getElem?_eq_getElem (by omega)]
  · rw [if_neg hj, dif_neg hj]
theorem ins_F {cs : List Value} {v0 v1 : Value} {i n : Nat} (hi : i ≤ n) (hl : cs.length = n * 2) : (∀ r, r < n → ∀ t, t < 2 → (cs.take (i * 2) ++ ([v0, v1] ++ cs.drop (i * 2)))[(if r < i then r else r + 1) * 2 + t]? = cs[r * 2 + t]?) ∧ (cs.take (i * 2) ++ ([v0, v1] ++ cs.drop (i * 2)))[i * 2]? = some v0 ∧ (cs.take (i * 2) ++ ([v0, v1] ++ cs.drop (i * 2)))[i * 2 + 1]? = some v1 := by
  have htl : (cs.take (i * 2)).length = i * 2 := by rw [List.length_take]; omega
  refine ⟨fun r hr t ht => ?_, ?_, ?_⟩
  · by_cases h : r < i
    · rw [if_pos h, List.getElem?_append_left (by omega), List.getElem?_take, if_pos (by omega)]
    · rw [if_neg h, List.getElem?_append_right (by omega), htl, List.getElem?_append_right (by simp; omega), List.getElem?_drop]
      congr 1; simp; omega
  · rw [List.getElem?_append_right (by omega), htl, Nat.sub_self]; rfl
  · rw [List.getElem?_append_right (by omega), htl, show i * 2 + 1 - i * 2 = 1 by omega]; rfl
theorem con_InsMod (L : List GLibMod) (m : GLibMod) (i : Nat) (hi : i ≤ L.length) (hl : L.length ≤ 1099511627776) : Con 104 [.ow 2 (GLibMod.ows L), .int .i64 i, .ow 2 (GLibMod.ows [m])] (.ow 2 (GLibMod.ows (L.take i ++ m :: L.drop i))) [none, none, none] := by
  intro κ w vals hlow hfr hrel
  obtain ⟨u, us, rfl, hu, u2, us2, rfl, hu2, u3, us3, rfl, hu3, rfl⟩ := hrel
  have hu2 : u2 = .int .i64 i := hu2
  subst hu2
  obtain ⟨A, cap, rfl, hcap, hmem⟩ := hu
  obtain ⟨A3, vc, rfl, hcap3, hmem3⟩ := hu3
  have hlen : (GLibMod.ows L).length = L.length := by simp
  have hlen3 : (GLibMod.ows [m]).length = 1 := rfl
  rw [hlen] at hcap
  rw [hlen3] at hcap3
  rcases hmem3 with h0 | ⟨vb, voff, V, tA, frV, rfl, hbV, hfV, hownV, hszV, hrsV⟩
  · omega
  have hownV : κ vb = some (.key (2, [])) := hownV
  -- the module that is put in
  obtain ⟨v1, hV0, hV1, hrelV⟩ : ∃ v1, V[voff]? = some (.string m.name) ∧ V[voff + 1]? = some v1 ∧ relV w κ noL (some (2, [(0, 1)])) (.ow 1 (GByte.ows m.b)) v1 := by
    obtain ⟨_, hr2⟩ := relRs_get hrsV (i := 0) (row := GLibMod.ow m) rfl
    obtain ⟨u0, h0, r0⟩ := relRow_get hr2 (i := 0) (v := .str m.name) rfl
    obtain ⟨u1, h1, r1⟩ := relRow_get hr2 (i := 1) (v := .ow 1 (GByte.ows m.b)) rfl
    have r0 : u0 = .string m.name := r0
    subst r0
    exact ⟨u1, by simpa using h0, by simpa using h1, by simpa [kid] using r1⟩
  have one1 : v1.oneCell' = true := by obtain ⟨_, _, rfl, _⟩ := hrelV; rfl
  have hvs : ∀ (j : Nat) v, [Value.string m.name, v1][j]? = some v → w.cell? ⟨vb, voff + j, none⟩ = some v := fun j v hj => by
    rw [cell_of_heap hbV]
    rcases j with _ | _ | j
    · rw [Nat.add_zero, hV0]; exact hj
    · rw [hV1]; exact hj
    · cases hj
  have h1v : ∀ v ∈ [Value.string m.name, v1], v.oneCell' = true := fun v hv => by
    simp only [List.mem_cons, List.not_mem_nil, or_false] at hv
    rcases hv with e | e <;> rw [e]
    · rfl
    · exact one1
  have fin : ∀ (B off cap' : Nat) (w' : World) (cs : List Value), cs.length = L.length * 2 → L.length + 1 ≤ cap' → (B = w.heap.size ∨ κ B = some (.key (0, []))) →
      (∀ r (hr : r < L.length), ∃ v, relV w κ noL (some (0, [(r, 1)])) (.ow 1 (GByte.ows L[r].b)) v ∧ cs[r * 2]? = some (.string L[r].name) ∧ cs[r * 2 + 1]? = some v) →
      InsEnd w w' B off cap' (cs.take (i * 2) ++ ([.string m.name, v1] ++ cs.drop (i * 2))) →
      ∃ κ', relV w' κ' noL (some (3, [])) (.ow 2 (GLibMod.ows (L.take i ++ m :: L.drop i))) (.slice (some ⟨B, off, none⟩) (L.length + 1) cap') ∧ relOuts w' κ' 0 [none, none, none] [.slice A (GLibMod.ows L).length cap, .int .i64 i, .slice (some ⟨vb, voff, none⟩) (GLibMod.ows [m]).length vc] ∧ Stp κ w κ' w' ∧ (∀ b g, κ' b = some g → b < w'.heap.size) ∧ (∀ b id p, κ' b = some (.key (id, p)) → id ≤ 3) := fun B off cap' w' cs hcl hc' hB hcs hE => by
    obtain ⟨f1, f2, f3⟩ := ins_F (v0 := .string m.name) (v1 := v1) hi hcl
    obtain ⟨κ', a1, a2, a3, a4⟩ := ins_rel hi hc' hlow (fun b id p h => hfr b id p h) hB hE (fun r hr => by
      obtain ⟨v, c1, c2, c3⟩ := hcs r hr
      exact ⟨v, c1, (f1 r hr 0 (by decide)).trans c2, (f1 r hr 1 (by decide)).trans c3⟩) ⟨v1, hrelV, f2, f3⟩
    exact ⟨κ', a1, ⟨trivial, trivial, trivial, trivial⟩, a2, a3, a4⟩
  unfold callRun
  rw [Go.Proofs.enters_of Tryz.func104 (by kernel_rfl) rfl]
  show Calls _ _ _ _ _
  rw [hlen, hlen3] at fin ⊢
  have hzs : ∀ k, (Builtin.zeroCells #[Value.string ⟨#[]⟩, Value.slice none 0 0] k).size = k * 2 := fun k => by simp [Builtin.zeroCells]
  rcases hmem with h0 | ⟨b, off, C, t, fr, rfl, hb, hf, hown, hsz, hrs⟩
  · -- nothing is there
    have hL0 : L.length = 0 := by omega
    have hi0 : i = 0 := by omega
    subst hi0
    subst h0
    have hw := walk_ins_new A L.length 0 vb voff 1 vc [] [.string m.name, v1] w (by decide) hcap (by omega) (by omega) (by rw [hL0]; rfl) rfl (fun _ => hL0) (fun a _ j v hj => by cases hj) hvs h1v
    rw [show ((0 : Nat) : Int) = (L.length : Int) by omega]
    refine hw.mono ?_
    rintro e w' ⟨rfl, rfl⟩
    refine ⟨_, rfl, ?_⟩
    have hG := grownCap_ge w (L.length + 1) 0 101
    refine fin w.heap.size 0 _ _ [] (by rw [hL0]; rfl) hG (.inl rfl) (fun r hr => by omega) (end_new w _ _ _ ?_ fun j v hj => ?_)
    · rw [Array.size_append, hzs]; simp; omega
    · have hj2 : j < 2 := (List.getElem?_eq_some_iff.1 hj).1
      rw [Array.getElem?_append_left (by simpa using hj2), List.getElem?_toArray]
      exact hj
  have hown : κ b = some (.key (0, [])) := hown
  have hbl : b < w.heap.size := hlow b _ hown
  have hne : vb ≠ b := fun e => by rw [e, hown] at hownV; injection hownV with h; injection h with h; injection h with h _; cases h
  have hin : off + L.length * 2 ≤ C.size := by omega
  obtain ⟨cs, hcs⟩ : ∃ cs : List Value, cs = List.ofFn (n := L.length * 2) fun t => C[off + t.1]! := ⟨_, rfl⟩
  have hcl : cs.length = L.length * 2 := by rw [hcs]; simp
  have hcg : ∀ j, cs[j]? = if j < L.length * 2 then C[off + j]? else none := fun j => by rw [hcs]; exact ofFn_get C off _ hin j
  have hcc : ∀ (j : Nat) v, cs[j]? = some v → w.cell? ⟨b, off + j, none⟩ = some v := fun j v hj => by
    rw [hcg] at hj
    rw [cell_of_heap hb]
    split at hj
    · exact hj
    · cases hj
  have hcell : ∀ r (hr : r < L.length), ∃ v, relV w κ noL (some (0, [(r, 1)])) (.ow 1 (GByte.ows L[r].b)) v ∧ cs[r * 2]? = some (.string L[r].name) ∧ cs[r * 2 + 1]? = some v := fun r hr => by
    have hrow : (GLibMod.ows L)[r]? = some (GLibMod.ow L[r]) := map_get _ _ hr
    obtain ⟨_, hr2⟩ := relRs_get hrs hrow
    obtain ⟨u0, h0, r0⟩ := relRow_get hr2 (i := 0) (v := .str L[r].name) rfl
    obtain ⟨u1, h1, r1⟩ := relRow_get hr2 (i := 1) (v := .ow 1 (GByte.ows L[r].b)) rfl
    have r0 : u0 = .string L[r].name := r0
    subst r0
    exact ⟨u1, by simpa [kid] using r1, by rw [hcg, if_pos (by omega)]; exact h0, by rw [hcg, if_pos (by omega), ← Nat.add_assoc]; exact h1⟩
  have h1c : ∀ v ∈ cs, v.oneCell' = true := fun v hv => by
    obtain ⟨j, hj, rfl⟩ := List.mem_iff_getElem.1 hv
    have hr : j / 2 < L.length := by omega
    obtain ⟨v, hrel, c0, c1⟩ := hcell (j / 2) hr
    have hg : cs[j]? = some cs[j] := List.getElem?_eq_getElem hj
    rcases (by omega : j = j / 2 * 2 ∨ j = j / 2 * 2 + 1) with e | e
    · have h : cs[j / 2 * 2]? = some cs[j] := by rw [← hg]; congr 1; omega
      rw [c0] at h
      rw [← Option.some.inj h]; rfl
    · have h : cs[j / 2 * 2 + 1]? = some cs[j] := by rw [← hg]; congr 1; omega
      obtain ⟨_, _, rfl, _⟩ := hrel
      rw [c1] at h
      rw [← Option.some.inj h]; rfl
  have hfz : ∀ x, x < C.size → w.frozen? ⟨b, x, none⟩ = false := fun x hx => by
    have := hf.1 x hx
    cases e : w.frozen? ⟨b, x, none⟩ with
    | false => rfl
    | true => simp [World.frozen?, hb] at e; exact absurd e this
  have hsome : ∀ x, x < C.size → (w.cell? ⟨b, x, none⟩).isSome = true := fun x hx => by rw [cell_of_heap hb, Array.getElem?_eq_getElem hx]; rfl
  by_cases hroom : L.length + 1 ≤ cap
  · -- in its place
    have hin2 : off + (L.length + 1) * 2 ≤ C.size := by omega
    obtain ⟨d, hd⟩ : ∃ d : Array Value, d = (List.ofFn (n := (L.length + 1) * 2) fun t => C[off + t.1]!).toArray := ⟨_, rfl⟩
    have hds : d.size = (L.length + 1) * 2 := by rw [hd, List.size_toArray, List.length_ofFn]
    have hdg : ∀ j, d[j]? = if j < (L.length + 1) * 2 then C[off + j]? else none := fun j => by rw [hd, List.getElem?_toArray]; exact ofFn_get C off _ hin2 j
    have hH : Go.Sort.Holds id w b off d := fun j hj => by
      rw [hds] at hj
      refine ⟨?_, hfz _ (by omega)⟩
      rw [cell_of_heap hb]
      have := hdg j
      rw [if_pos hj] at this
      rw [← this]
      show d[j]? = some d[j]!
      rw [getElem!_pos d j (by omega), Array.getElem?_eq_getElem (by omega)]
    have hF : ∀ D : Array Value, D.size = (L.length + 1) * 2 → (∀ j, j < (L.length + 1) * 2 → D[j]? = (cs.take (i * 2) ++ ([.string m.name, v1] ++ cs.drop (i * 2)))[j]?) → ∀ (j : Nat) v, (cs.take (i * 2) ++ ([.string m.name, v1] ++ cs.drop (i * 2)))[j]? = some v → j < D.size ∧ D[j]! = v := fun D hs hD j v hj => by
      have hj2 : j < (L.length + 1) * 2 := by
        have := (List.getElem?_eq_some_iff.1 hj).1
        simp [hcl] at this; omega
      refine ⟨by omega, ?_⟩
      rw [getElem!_def, hD j hj2, hj]
    have htl : (cs.take (i * 2)).length = i * 2 := by rw [List.length_take]; omega
    by_cases hlt : i < L.length
    · obtain ⟨ksa, ksb⟩ : w.shape? vb = some (tA, V.size) ∧ w.shape? b = some (t, C.size) := ⟨by simp [World.shape?, hbV], by simp [World.shape?, hb]⟩
      have hfV1 : ∀ x, x ≤ V.size → voff ≤ x → w.frozen? ⟨vb, x, none⟩ = false := fun x hx h0 => by
        cases e : w.frozen? ⟨vb, x, none⟩ with
        | false => rfl
        | true =>
          simp [World.frozen?, hbV] at e
          by_cases h : x < V.size
          · exact absurd e (hfV.1 x h)
          · have : x = V.size := by omega
            subst this
            exact absurd e (hfV.2 (by decide))
      have hw := walk_ins_shift b off L.length cap i vb voff 1 vc cs [.string m.name, v1] w hlt (by decide) hroom (by omega) hne hcl rfl hcc (fun j hj => hsome _ (by omega)) (fun j hj => hfz _ (by omega)) hvs h1c h1v tA t V.size C.size ksa ksb (by omega) (hfV1 voff (by omega) (Nat.le_refl _)) (hfV1 V.size (Nat.le_refl _) (by omega))
      refine hw.mono ?_
      rintro e w' ⟨rfl, rfl⟩
      refine ⟨_, rfl, ?_⟩
      have e1 : w.drew.setCells b (off + (i + 1) * 2) (cs.drop (i * 2)) = Go.Sort.putRow id (Go.Sort.ahead w 1) b off (Go.Lib.lay d ((i + 1) * 2) (cs.drop (i * 2))) := by
        rw [← Go.Lib.putRow_setCells id (Go.Sort.ahead w 1) b off _ d ((i + 1) * 2) (by simp [hcl, hds]; omega), List.map_id, Go.Sort.putRow_self id (Go.Sort.ahead w 1) b off d (Go.Sort.holds_ahead id w 1 b off d hH)]; rfl
      have e2 := Go.Lib.putRow_setCells id (Go.Sort.ahead w 1) b off [.string m.name, v1] (Go.Lib.lay d ((i + 1) * 2) (cs.drop (i * 2))) (i * 2) (by rw [Go.Lib.lay_size, hds]; simp; omega)
      rw [List.map_id] at e2
      rw [e1, e2]
      have hDs : (Go.Lib.lay (Go.Lib.lay d ((i + 1) * 2) (cs.drop (i * 2))) (i * 2) [.string m.name, v1]).size = (L.length + 1) * 2 := by rw [Go.Lib.lay_size, Go.Lib.lay_size, hds]
      refine fin b off cap _ cs hcl hroom (.inr hown) hcell (ins_put hb hf hsz _ 1 (hF _ hDs fun j hj => ?_) (by rw [hDs]; exact hin2))
      rw [Go.Lib.lay_get? _ _ _ _ (by rw [Go.Lib.lay_size, hds]; simp; omega), Go.Lib.lay_get? _ _ _ _ (by simp [hcl, hds]; omega)]
      by_cases c1 : j < i * 2
      · rw [if_neg (by omega), if_neg (by omega), List.getElem?_append_left (by omega), List.getElem?_take, if_pos c1, hdg, if_pos hj, hcg, if_pos (by omega)]
      · rw [List.getElem?_append_right (by omega), htl]
        by_cases c2 : j < i * 2 + 2
        · rw [if_pos (by simp; omega), List.getElem?_append_left (by simp; omega)]
        · rw [if_neg (by simp; omega), if_pos (by simp [hcl]; omega), List.getElem?_append_right (by simp; omega)]
          congr 1; simp; omega
    · have hin0 : i = L.length := by omega
      subst hin0
      have hw := walk_ins_room b off L.length cap vb voff 1 vc [.string m.name, v1] w (by decide) hroom (by omega) rfl (fun j hj => hsome _ (by omega)) (fun j hj => hfz _ (by omega)) hvs h1v
      refine hw.mono ?_
      rintro e w' ⟨rfl, rfl⟩
      refine ⟨_, rfl, ?_⟩
      have e1 : w.setCells b (off + L.length * 2) [.string m.name, v1] = Go.Sort.putRow id (Go.Sort.ahead w 0) b off (Go.Lib.lay d (L.length * 2) [.string m.name, v1]) := by
        rw [← Go.Lib.putRow_setCells id (Go.Sort.ahead w 0) b off _ d (L.length * 2) (by simp [hds]; omega), List.map_id, Go.Sort.putRow_self id (Go.Sort.ahead w 0) b off d (Go.Sort.holds_ahead id w 0 b off d hH)]; rfl
      rw [e1]
      have hDs : (Go.Lib.lay d (L.length * 2) [.string m.name, v1]).size = (L.length + 1) * 2 := by rw [Go.Lib.lay_size, hds]
      refine fin b off cap _ cs hcl hroom (.inr hown) hcell (ins_put hb hf hsz _ 0 (hF _ hDs fun j hj => ?_) (by rw [hDs]; exact hin2))
      rw [Go.Lib.lay_get? _ _ _ _ (by simp [hds]; omega)]
      by_cases c1 : j < L.length * 2
      · rw [if_neg (by omega), List.getElem?_append_left (by omega), List.getElem?_take, if_pos c1, hdg, if_pos hj, hcg, if_pos c1]
      · rw [if_pos (by simp; omega), List.getElem?_append_right (by omega), htl, List.getElem?_append_left (by simp; omega)]
  · have hroom : cap < L.length + 1 := by omega
    have hG := grownCap_ge w (L.length + 1) cap 101
    by_cases hlt : i < L.length
    · have hw := walk_ins_grow b off L.length cap i vb voff 1 vc cs [.string m.name, v1] w hlt (by decide) hcap hroom (by omega) hcl rfl hcc hvs h1c h1v
      refine hw.mono ?_
      rintro e w' ⟨rfl, rfl⟩
      refine ⟨_, rfl, ?_⟩
      generalize grownCap w (L.length + 1) cap 101 = G at hG ⊢
      obtain ⟨ROW, hROW⟩ : ∃ ROW : Array Value, ROW = (cs.take (i * 2)).toArray ++ Builtin.zeroCells #[.string ⟨#[]⟩, .slice none 0 0] (L.length + 1 - i) ++ Builtin.zeroCells #[.string ⟨#[]⟩, .slice none 0 0] (G - (L.length + 1)) := ⟨_, rfl⟩
      rw [← hROW]
      have htl : (cs.take (i * 2)).length = i * 2 := by rw [List.length_take]; omega
      have hRs : ROW.size = G * 2 := by rw [hROW, Array.size_append, Array.size_append, hzs, hzs, List.size_toArray, htl]; omega
      have hRg : ∀ j, j < i * 2 → ROW[j]? = cs[j]? := fun j hj => by
        rw [hROW, Array.getElem?_append_left (by rw [Array.size_append, List.size_toArray, htl]; omega), Array.getElem?_append_left (by rw [List.size_toArray, htl]; exact hj), List.getElem?_toArray, List.getElem?_take, if_pos hj]
      obtain ⟨W0, hW0⟩ : ∃ W0, W0 = w.alloc (.cells ROW 101) := ⟨_, rfl⟩
      have hb0 : W0.heap[w.heap.size]? = some (.cells ROW 101 (0, 0)) := by
        rw [hW0]
        show (w.heap.push _)[w.heap.size]? = _
        rw [Array.getElem?_push, if_pos rfl]
      have hH0 : Go.Sort.Holds id W0 w.heap.size 0 ROW := fun j hj => by
        refine ⟨?_, ?_⟩
        · rw [cell_of_heap hb0, Nat.zero_add]
          show ROW[j]? = some ROW[j]!
          rw [getElem!_pos ROW j hj, Array.getElem?_eq_getElem hj]
        · simp [World.frozen?, hb0]
      rw [← hW0]
      have e1 : W0.drew.setCells w.heap.size (i * 2) [.string m.name, v1] = Go.Sort.putRow id (Go.Sort.ahead W0 1) w.heap.size 0 (Go.Lib.lay ROW (i * 2) [.string m.name, v1]) := by
        have := Go.Lib.putRow_setCells id (Go.Sort.ahead W0 1) w.heap.size 0 [.string m.name, v1] ROW (i * 2) (by rw [hRs]; simp; omega)
        rw [List.map_id, Go.Sort.putRow_self id (Go.Sort.ahead W0 1) w.heap.size 0 ROW (Go.Sort.holds_ahead id W0 1 w.heap.size 0 ROW hH0), Nat.zero_add] at this
        exact this
      have e2 := Go.Lib.putRow_setCells id (Go.Sort.ahead W0 2) w.heap.size 0 (cs.drop (i * 2)) (Go.Lib.lay ROW (i * 2) [.string m.name, v1]) ((i + 1) * 2) (by rw [Go.Lib.lay_size, hRs]; simp [hcl]; omega)
      rw [List.map_id, Nat.zero_add] at e2
      rw [e1]
      have e3 : (Go.Sort.putRow id (Go.Sort.ahead W0 1) w.heap.size 0 (Go.Lib.lay ROW (i * 2) [.string m.name, v1])).drew = Go.Sort.putRow id (Go.Sort.ahead W0 2) w.heap.size 0 (Go.Lib.lay ROW (i * 2) [.string m.name, v1]) := rfl
      rw [e3, e2]
      have hDs : (Go.Lib.lay (Go.Lib.lay ROW (i * 2) [.string m.name, v1]) ((i + 1) * 2) (cs.drop (i * 2))).size = G * 2 := by rw [Go.Lib.lay_size, Go.Lib.lay_size, hRs]
      have hp := ins_put (F := cs.take (i * 2) ++ ([.string m.name, v1] ++ cs.drop (i * 2))) (off := 0) (cap := G) hb0 (freeC_none _ _) (by rw [hRs]; omega) (Go.Lib.lay (Go.Lib.lay ROW (i * 2) [.string m.name, v1]) ((i + 1) * 2) (cs.drop (i * 2))) 2 (fun j v hj => by
        have hj2 : j < (L.length + 1) * 2 := by
          have := (List.getElem?_eq_some_iff.1 hj).1
          simp [hcl] at this; omega
        refine ⟨by rw [hDs]; omega, ?_⟩
        have : (Go.Lib.lay (Go.Lib.lay ROW (i * 2) [.string m.name, v1]) ((i + 1) * 2) (cs.drop (i * 2)))[j]? = (cs.take (i * 2) ++ ([.string m.name, v1] ++ cs.drop (i * 2)))[j]? := by
          rw [Go.Lib.lay_get? _ _ _ _ (by rw [Go.Lib.lay_size, hRs]; simp [hcl]; omega), Go.Lib.lay_get? _ _ _ _ (by rw [hRs]; simp; omega)]
          by_cases c1 : j < i * 2
          · rw [if_neg (by omega), if_neg (by omega), List.getElem?_append_left (by omega), List.getElem?_take, if_pos c1, hRg j c1]
          · rw [List.getElem?_append_right (by omega), htl]
            by_cases c2 : j < i * 2 + 2
            · rw [if_neg (by omega), if_pos (by simp; omega), List.getElem?_append_left (by simp; omega)]
            · rw [if_pos (by simp [hcl]; omega), List.getElem?_append_right (by simp; omega)]
              congr 1; simp; omega
        rw [getElem!_def, this, hj]) (by rw [hDs, hRs]; omega)
      rw [hW0] at hp
      rw [hW0]
      exact fin w.heap.size 0 G _ cs hcl hG (.inl rfl) hcell (end_laid hp)
    · have hin0 : i = L.length := by omega
      subst hin0
      have hw := walk_ins_new (some ⟨b, off, none⟩) L.length cap vb voff 1 vc cs [.string m.name, v1] w (by decide) hcap hroom (by omega) hcl rfl (fun h => by cases h) (fun a ha j v hj => by
        injection ha with ha
        subst ha
        rw [Addr.add_lit]
        exact hcc j v hj) hvs h1v
      refine hw.mono ?_
      rintro e w' ⟨rfl, rfl⟩
      refine ⟨_, rfl, ?_⟩
      generalize grownCap w (L.length + 1) cap 101 = G at hG ⊢
      have hF : cs.take (L.length * 2) ++ ([.string m.name, v1] ++ cs.drop (L.length * 2)) = cs ++ [.string m.name, v1] := by
        rw [List.take_of_length_le (by omega), List.drop_of_length_le (by omega), List.append_nil]
      refine fin w.heap.size 0 G _ cs hcl hG (.inl rfl) hcell (end_new w _ _ _ ?_ fun j v hj => ?_)
      · rw [Array.size_append, hzs]; simp [hcl]; omega
      · rw [hF] at hj
        have hj2 : j < (cs ++ [.string m.name, v1]).length := (List.getElem?_eq_some_iff.1 hj).1
        rw [Array.getElem?_append_left (by rw [List.size_toArray]; exact hj2), List.getElem?_toArray]
        exact hj
end Go.Proofs.VI
