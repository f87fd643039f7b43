/- Contracts of functions, and what they rest on: libdel. -/
import Derived.Test.YtjlonhiojgljcaaGreatX1
import Derived.Test.YtjlonhiojgljcaaGreatG8
import Derived.Test.YtjlonhiojgljcaaGreatA1
import Derived.Shelf.RegionOpenPlain
import Derived.WalkKit
import Derived.Deep.LoopGhost
import Derived.Deep.RegionLaw
import Derived.Lib.Walk
import Derived.Sort.WalkB12
import Derived.Lib.SliceRun
import Derived.Lib.SlicesDelete
set_option linter.unusedVariables false
set_option linter.unusedSimpArgs false
set_option maxRecDepth 10000
set_option maxHeartbeats 4000000
namespace Go.Proofs.VI
open Go
/-- clear of one element of two cells. -/
theorem run_clear_two {P : Program} (w : World) (t e ty : TypeId) (z x y : Value) (ht : P.underlying t = some (.slice e)) (hv : (zeroValue e).run P w = .ok z w) (hz : z.cells = #[x, y]) (h1 : x.oneCell' = true) (h2 : y.oneCell' = true) (b o c : Nat)
    (hc : ∀ j, j < 2 → (w.cell? ⟨b, o + j, none⟩).isSome = true) (hf : ∀ j, j < 2 → w.frozen? ⟨b, o + j, none⟩ = false) :
    (Builtin.clear_ #[t] ty #[.slice (some ⟨b, o, none⟩) 1 c]).run P w = .ok (.tuple #[]) (w.setCells b o [x, y]) := by
  have hzc : (Builtin.zeroCells z.cells 1).toList = [x, y] := by
    rw [hz]
    simp only [Builtin.zeroCells]
    apply List.ext_getElem
    · simp
    · intro i h1 h2
      rcases i with _ | _ | i
      · simp
      · simp
      · exact absurd h2 (by simp)
  have hst := run_storeCells_cells (P := P) b o [x, y] 0 w (by simpa using hc) (by simpa using hf) (by
    intro v hv'
    simp only [List.mem_cons, List.not_mem_nil, or_false] at hv'
    rcases hv' with e | e <;> rw [e] <;> assumption)
  simp only [Nat.add_zero] at hst
  simp [Builtin.clear_, run_underlying ht, hv, hzc, hst]
open Go.RowKit Go.Lib Go.Sort in
set_option maxHeartbeats 4000000 in
set_option maxRecDepth 1000000 in
theorem walk_del (blk off cap i j n : Nat) (d : Array Value) (w : World) (hH : Go.Sort.Holds id w blk off d) (hd : d.size = n * 2) (h1 : ∀ v ∈ d.toList, v.oneCell' = true) (hcap : n ≤ cap) (hij : j = i + 1) (hj : j ≤ n) (hn : n ≤ 1099511627776) :
    Calls Tryz.prog 102 #[.slice (some ⟨blk, off, none⟩) n cap, .int .i64 i, .int .i64 j] w fun e w' => e = .returned (.slice (some ⟨blk, off, none⟩) (n - 1) cap) ∧ ∃ q, w' = Go.Sort.putRow id (Go.Sort.ahead w q) blk off (Go.Lib.lay (Go.Lib.lay d (i * 2) (d.toList.drop (j * 2))) ((n - 1) * 2) [.string ⟨#[]⟩, .slice none 0 0]) := by
  have mixed : Tryz.prog.follows .mixedOrders = true := by kernel_rfl
  obtain ⟨i0, hi0, hz1⟩ : ∃ i0, Tryz.prog.info? 101 = some i0 ∧ i0.size = 2 := ⟨_, rfl, rfl⟩
  have t1 : Tryz.prog.underlying 28 = some (.slice 101) := rfl
  obtain ⟨news, hnews⟩ : ∃ news, news = d.toList.drop (j * 2) := ⟨_, rfl⟩
  have hlen : news.length = (n - j) * 2 := by rw [hnews]; simp; omega
  have hget : ∀ t, t < (n - j) * 2 → news[t]? = some d[j * 2 + t]! := by
    intro t ht
    rw [hnews, List.getElem?_drop, Array.getElem?_toList, getElem!_pos d (j * 2 + t) (by omega), Array.getElem?_eq_getElem (by omega)]
  obtain ⟨A, hA, hsrc⟩ : ∃ A : Addr, (if cap = j then some (⟨blk, off, none⟩ : Addr) else some ⟨blk, off + j * 2, none⟩) = some A ∧ Hid (∀ t u, news[t]? = some u → w.drew.cell? (A.add t) = some u) := by
    by_cases h : cap = j
    · refine ⟨⟨blk, off, none⟩, by simp [h], fun t u hu => ?_⟩
      have h0 : news.length = 0 := by rw [hlen]; omega
      rw [List.length_eq_zero_iff.1 h0] at hu
      simp at hu
    · refine ⟨⟨blk, off + j * 2, none⟩, by simp [h], fun t u hu => ?_⟩
      have ht : t < (n - j) * 2 := by
        have := (List.getElem?_eq_some_iff.1 hu).1
        rwa [hlen] at this
      rw [hget t ht] at hu
      rw [Addr.add_lit, show off + j * 2 + t = off + (j * 2 + t) by omega]
      exact (hH (j * 2 + t) (by omega)).1.trans hu
  have s1 : Hid (news.length = (n - j) * 2) := hlen
  have s2 : Hid (∀ u ∈ news, u.oneCell' = true) := by
    intro u hu
    rw [hnews] at hu
    exact h1 u (List.mem_of_mem_drop hu)
  have s3 : Hid (∀ t, t < news.length → (w.drew.cell? ⟨blk, off + i * 2 + t, none⟩).isSome = true ∧ w.drew.frozen? ⟨blk, off + i * 2 + t, none⟩ = false) := by
    intro t ht
    rw [hlen] at ht
    rw [Nat.add_assoc]
    exact ⟨by show (w.cell? _).isSome = true; rw [(hH (i * 2 + t) (by omega)).1]; rfl, (hH (i * 2 + t) (by omega)).2⟩
  obtain ⟨W1, hW1⟩ : ∃ W1, W1 = w.drew.setCells blk (off + i * 2) news := ⟨_, rfl⟩
  have hW1' : W1 = putRow id (Sort.ahead w 1) blk off (lay d (i * 2) (d.toList.drop (j * 2))) := by
    rw [hW1, hnews, ← putRow_setCells id (Sort.ahead w 1) blk off _ d (i * 2) (by simp; omega), List.map_id, putRow_self id (Sort.ahead w 1) blk off d (holds_ahead id w 1 blk off d hH)]
    rfl
  have hH1 : Holds id W1 blk off (lay d (i * 2) (d.toList.drop (j * 2))) := by rw [hW1']; exact holds_putRow id _ blk off d _ (holds_ahead id w 1 blk off d hH) (lay_size _ _ _)
  have hcl : ∀ ty, (Builtin.clear_ #[28] ty #[.slice (some ⟨blk, off + (i + (n - j)) * 2, none⟩) (n - (i + (n - j))) (cap - (i + (n - j)))]).run Tryz.prog W1 = .ok (.tuple #[]) (W1.setCells blk (off + (i + (n - j)) * 2) [.string ⟨#[]⟩, .slice none 0 0]) :=
    fun ty => by
      rw [show n - (i + (n - j)) = 1 by omega]
      exact run_clear_two W1 _ _ ty (.agg #[.string ⟨#[]⟩, .slice none 0 0]) _ _ t1 rfl rfl rfl rfl blk (off + (i + (n - j)) * 2) _ (fun t ht => by rw [show off + (i + (n - j)) * 2 + t = off + ((i + (n - j)) * 2 + t) by omega, (hH1 _ (by rw [lay_size]; omega)).1]; rfl) (fun t ht => by rw [show off + (i + (n - j)) * 2 + t = off + ((i + (n - j)) * 2 + t) by omega]; exact (hH1 _ (by rw [lay_size]; omega)).2)
  have X : Aside (W1 = putRow id (Sort.ahead w 1) blk off (lay d (i * 2) (d.toList.drop (j * 2)))) := hW1'
  have hW : Hid (W1 = w.drew.setCells blk (off + i * 2) news) := hW1
  have hic : i ≤ cap := by omega
  have hjc : j ≤ cap := by omega
  have hD : Aside (d.size = n * 2) := hd
  have hlt : i < j := by omega
  have hJ : Aside (j = i + 1) := hij
  clear hij
  clear hW1 hW1' hH1 hH hget hnews hlen h1 hd
  go_enter Tryz.func102, Tryz.ntmps102
  go_wp2_with fail
  go_region_law_o (refine step_append_room rfl (.tmp 22) (.tmp 25) 28 rfl 101 i0 2 t1 hi0 hz1 blk off i cap (by simp [Act.eval, Act.put]) A (n - j) (cap - j) news (by simp [Act.eval, Act.put]) s1.out hsrc.out s2.out (by omega) s3.out ?_; rw [← hW.out])
  go_wp2
  go_ret
  have hJ := hJ.out
  have hD := hD.out
  have e1 : n - 1 = i + (n - j) := by omega
  rw [e1]
  refine ⟨rfl, 1, ?_⟩
  have e2 := putRow_setCells id (Sort.ahead w 1) blk off [Value.string ⟨#[]⟩, .slice none 0 0] (lay d (i * 2) (d.toList.drop (j * 2))) ((i + (n - j)) * 2) (by rw [lay_size, hD]; simp; omega)
  rw [← e2, ← X.out, List.map_id]
theorem con_DelMod (L : List GLibMod) (i : Nat) (hi : i < L.length) (hl : L.length ≤ 1099511627776) : Con 102 [.ow 2 (GLibMod.ows L), .int .i64 i, .int .i64 ((i + 1 : Nat) : Int)] (.ow 2 (GLibMod.ows (L.eraseIdx i))) [none, none, none] := by
  intro κ w vals hlow hfr hrel
  obtain ⟨u, us, rfl, hu, u2, us2, rfl, hu2, u3, us3, rfl, hu3, rfl⟩ := hrel
  have hu2 : u2 = .int .i64 i := hu2
  have hu3 : u3 = .int .i64 ((i + 1 : Nat) : Int) := hu3
  subst hu2 hu3
  obtain ⟨A, cap, rfl, hcap, hmem⟩ := hu
  have hlen : (GLibMod.ows L).length = L.length := by simp
  have hlen' : (GLibMod.ows (L.eraseIdx i)).length = L.length - 1 := by simp [List.length_eraseIdx, hi]
  rw [hlen] at hcap
  rcases hmem with h0 | ⟨b, off, C, t, fr, rfl, hb, hf, hown, hsz, hrs⟩
  · omega
  have hown : κ b = some (.key (0, [])) := hown
  have hbl : b < w.heap.size := hlow b _ hown
  have hin : ∀ j, j < L.length * 2 → off + j < C.size := fun j hj => by omega
  have hcell : ∀ r (hr : r < L.length), ∃ v, C[off + r * 2]? = some (.string L[r].name) ∧ C[off + (r * 2 + 1)]? = some v ∧ relV w κ noL (some (0, [(r, 1)])) (.ow 1 (GByte.ows L[r].b)) v := fun r hr => by
    have hrow : (GLibMod.ows L)[r]? = some (GLibMod.ow L[r]) := map_get _ _ hr
    obtain ⟨_, hr2⟩ := relRs_get hrs hrow
    obtain ⟨u0, h0, r0⟩ := relRow_get hr2 (i := 0) (v := .str L[r].name) rfl
    obtain ⟨u1, h1, r1⟩ := relRow_get hr2 (i := 1) (v := .ow 1 (GByte.ows L[r].b)) rfl
    have r0 : u0 = .string L[r].name := r0
    subst r0
    exact ⟨u1, h0, by rw [← Nat.add_assoc]; exact h1, by simpa [kid] using r1⟩
  obtain ⟨d, hdd⟩ : ∃ d : Array Value, d = Array.ofFn (n := L.length * 2) fun t => C[off + t.1]! := ⟨_, rfl⟩
  have hds : d.size = L.length * 2 := by rw [hdd]; simp
  have hdg : ∀ t, t < L.length * 2 → d[t]? = C[off + t]? := fun t ht => by
    rw [hdd, Array.getElem?_eq_getElem (by simpa using ht), Array.getElem_ofFn, getElem!_pos C (off + t) (hin t ht), Array.getElem?_eq_getElem (hin t ht)]
  have hdb : ∀ t, t < L.length * 2 → C[off + t]? = some d[t]! := fun t ht => by
    rw [← hdg t ht, getElem!_pos d t (by omega), Array.getElem?_eq_getElem (by omega)]
  have hH : Go.Sort.Holds id w b off d := fun t ht => by
    rw [hds] at ht
    refine ⟨?_, ?_⟩
    · rw [cell_of_heap hb]; exact hdb t ht
    · have := hf (off + t) (hin t ht)
      cases e : w.frozen? ⟨b, off + t, none⟩ with
      | false => rfl
      | true => simp [World.frozen?, hb] at e; exact absurd e this
  have h1 : ∀ v ∈ d.toList, v.oneCell' = true := fun v hv => by
    obtain ⟨t, ht, rfl⟩ := List.mem_iff_getElem.1 hv
    have ht : t < L.length * 2 := by simpa [hds] using ht
    have hr : t / 2 < L.length := by omega
    obtain ⟨v, c0, c1, hrel⟩ := hcell (t / 2) hr
    have hd2 : C[off + t]? = some d.toList[t] := by
      have e : d.toList[t]? = C[off + t]? := by rw [Array.getElem?_toList]; exact hdg t ht
      rw [← e, List.getElem?_eq_getElem]
    rcases (by omega : t = t / 2 * 2 ∨ t = t / 2 * 2 + 1) with e | e
    · have h : C[off + t / 2 * 2]? = some d.toList[t] := by rw [← hd2]; congr 1; omega
      rw [c0] at h
      rw [← Option.some.inj h]; rfl
    · have h : C[off + (t / 2 * 2 + 1)]? = some d.toList[t] := by rw [← hd2]; congr 1; omega
      obtain ⟨A, cap2, rfl, _⟩ := hrel
      rw [c1] at h
      rw [← Option.some.inj h]; rfl
  have hw := walk_del b off cap i (i + 1) L.length d w hH hds h1 hcap rfl hi hl
  let κ' : Gh := fun b' => match κ b' with
    | some (.key (0, [])) => some (.key (3, []))
    | some (.key (0, (r, c) :: p)) => if r < i then some (.key (3, (r, c) :: p)) else if r = i then some (.key (0, (r, c) :: p)) else some (.key (3, (r - 1, c) :: p))
    | x => x
  have hκ0 : ∀ b', κ b' = some (.key (0, [])) → κ' b' = some (.key (3, [])) := fun b' h => by simp only [κ', h]
  have hκl : ∀ b' r c p, r < i → κ b' = some (.key (0, (r, c) :: p)) → κ' b' = some (.key (3, (r, c) :: p)) := fun b' r c p hr h => by simp only [κ', h, if_pos hr]
  have hκg : ∀ b' r c p, i ≤ r → κ b' = some (.key (0, (r + 1, c) :: p)) → κ' b' = some (.key (3, (r, c) :: p)) := fun b' r c p hr h => by
    simp only [κ', h, if_neg (show ¬ r + 1 < i by omega), if_neg (show ¬ r + 1 = i by omega), Nat.add_sub_cancel]
  have hκn : ∀ b', κ b' = none → κ' b' = none := fun b' h => by simp only [κ', h]
  have hκi : ∀ b', κ b' = some .imm → κ' b' = some .imm := fun b' h => by simp only [κ', h]
  have hκs : ∀ b' g, κ' b' = some g → ∃ g', κ b' = some g' := fun b' g h => by
    cases e : κ b' with
    | none => rw [hκn b' e] at h; cases h
    | some g' => exact ⟨g', rfl⟩
  have hκk : ∀ b' id p, κ' b' = some (.key (id, p)) → id ≤ 3 := fun b' id p h => by
    simp only [κ'] at h
    split at h
    · injection h with h; injection h with h; injection h with h _; omega
    · split at h
      · injection h with h; injection h with h; injection h with h _; omega
      · split at h
        · injection h with h; injection h with h; injection h with h _; omega
        · injection h with h; injection h with h; injection h with h _; omega
    · have := hfr b' id p h; simp at this; omega
  unfold callRun
  rw [Go.Proofs.enters_of Tryz.func102 (by kernel_rfl) rfl]
  show Calls _ _ _ _ _
  rw [hlen]
  refine hw.mono ?_
  rintro e w' ⟨rfl, q, rfl⟩
  refine ⟨_, rfl, ?_⟩
  obtain ⟨D, hD⟩ : ∃ D, D = Go.Lib.lay (Go.Lib.lay d (i * 2) (d.toList.drop ((i + 1) * 2))) ((L.length - 1) * 2) [Value.string ⟨#[]⟩, Value.slice none 0 0] := ⟨_, rfl⟩
  rw [← hD]
  have hDs : D.size = L.length * 2 := by rw [hD, Go.Lib.lay_size, Go.Lib.lay_size]; exact hds
  have hDg : ∀ t, t < (L.length - 1) * 2 → D[t]? = if t < i * 2 then d[t]? else d[t + 2]? := fun t ht => by
    rw [hD, Go.Lib.lay_get? _ _ _ _ (by rw [Go.Lib.lay_size, hds]; simp; omega), if_neg (by omega), Go.Lib.lay_get? _ _ _ _ (by simp [hds]; omega)]
    by_cases h : t < i * 2
    · rw [if_neg (by omega), if_pos h]
    · rw [if_pos (by simp [hds]; omega), if_neg h, List.getElem?_drop, Array.getElem?_toList]
      congr 1; omega
  have hE := rowEnd_put id w q b off D #[] hbl
  rw [Go.Sort.grow_empty] at hE
  generalize Go.Sort.putRow id (Go.Sort.ahead w q) b off D = w' at hE ⊢
  obtain ⟨C', hb', hs', hQ⟩ := hE.row C t fr hb
  have hne : ∀ b' p, κ b' = some (.key (0, p)) → p ≠ [] → b' ≠ b := fun b' p h1 h2 e => by
    rw [e, hown] at h1
    injection h1 with h1; injection h1 with h1; injection h1 with _ h1
    exact h2 h1.symm
  have hI : ImmMap w w' κ κ' := fun b' h => ⟨hκi b' h, hE.other b' (hlow b' _ h) fun e => by rw [e, hown] at h; cases h⟩
  refine ⟨κ', ⟨_, cap, by rw [hlen'], by rw [hlen']; omega, .inr ⟨b, off, C', t, fr, rfl, hb', fun j hj => hf j (by rw [← hs']; exact hj), hκ0 b hown, by rw [hs']; exact hsz, ?_⟩⟩, ⟨trivial, trivial, trivial, trivial⟩, ?_, fun b' g hg => ?_, hκk⟩
  · refine relRs_mk fun r row hrow => ?_
    rw [List.getElem?_map] at hrow
    have hr : r < L.length - 1 := by
      have := (List.getElem?_eq_some_iff.1 (show (GLibMod.ows (L.eraseIdx i))[r]? = some row by rw [← hrow]; exact List.getElem?_map ..)).1
      omega
    have key : ∀ (r' : Nat) (h' : r' < L.length), (L.eraseIdx i)[r]? = some L[r'] → (∀ t, t < 2 → C'[off + (r * 2 + t)]? = C[off + (r' * 2 + t)]?) → KeyMap w w' κ κ' (some (0, [(r', 1)])) (some (3, [(r, 1)])) → row.length = 2 ∧ relRow w' κ' (some (3, [])) (0 + r) 0 row C' (off + r * 2) := fun r' h' e hc hk => by
      rw [e] at hrow
      injection hrow with hrow
      subst hrow
      obtain ⟨v, c0, c1, hrel⟩ := hcell r' h'
      refine ⟨rfl, relRow_mk fun j x hj => ?_⟩
      rcases j with _ | _ | j
      · have e : x = .str L[r'].name := (Option.some.inj hj).symm
        subst e
        exact ⟨_, (hc 0 (by decide)).trans c0, rfl⟩
      · have e : x = .ow 1 (GByte.ows L[r'].b) := (Option.some.inj hj).symm
        subst e
        refine ⟨v, ((by rw [Nat.add_assoc] : C'[off + r * 2 + (0 + 1)]? = C'[off + (r * 2 + 1)]?).trans (hc 1 (by decide))).trans c1, ?_⟩
        have := relV_move hI (fun _ _ h => h) (.ow 1 (GByte.ows L[r'].b)) _ _ v hk hrel
        simpa [kid] using this
      · cases hj
    have hq : ∀ t, t < 2 → C'[off + (r * 2 + t)]? = some D[r * 2 + t]! := fun t ht => hQ (r * 2 + t) (by rw [hDs]; omega) (hin _ (by omega))
    have hg : ∀ t, t < 2 → D[r * 2 + t]? = some D[r * 2 + t]! := fun t ht => by rw [getElem!_pos D _ (by rw [hDs]; omega), Array.getElem?_eq_getElem (by rw [hDs]; omega)]
    by_cases h : r < i
    · refine key r (by omega) (by rw [List.getElem?_eraseIdx, if_pos h, List.getElem?_eq_getElem]) (fun t ht => ?_) ⟨_, rfl, fun p b' hb2 => ⟨hκl b' r 1 p h hb2, hE.other b' (hlow b' _ hb2) (hne b' _ hb2 (by simp))⟩⟩
      rw [hq t ht, ← hg t ht, hDg _ (by omega), if_pos (by omega)]
      exact hdg _ (by omega)
    · refine key (r + 1) (by omega) (by rw [List.getElem?_eraseIdx, if_neg h, List.getElem?_eq_getElem]) (fun t ht => ?_) ⟨_, rfl, fun p b' hb2 => ⟨hκg b' r 1 p (by omega) hb2, hE.other b' (hlow b' _ hb2) (hne b' _ hb2 (by simp))⟩⟩
      rw [hq t ht, ← hg t ht, hDg _ (by omega), if_neg (by omega)]
      exact (hdg _ (by omega)).trans (by congr 1; omega)
  · refine ⟨hE.os, hE.tape, hE.output, hE.size, fun b' hlt hno => hE.other b' hlt fun e => ?_, hκi, fun b' _ => hκn b', fun b' C1 t1 fr1 hc => ?_⟩
    · subst e; exact hno _ hown
    · by_cases e : b' = b
      · subst e
        rw [hb] at hc
        injection hc with hc
        injection hc with e1 e2 e3
        subst e1 e2 e3
        exact ⟨C', hb', hs'⟩
      · refine ⟨C1, ?_, rfl⟩
        rw [hE.other b' ?_ e]; exact hc
        exact (Array.getElem?_eq_some_iff.1 hc).1
  · obtain ⟨g', h⟩ := hκs b' g hg
    exact Nat.lt_of_lt_of_le (hlow b' g' h) hE.size
end Go.Proofs.VI
