/- Contracts of functions, and what they rest on: libsortf. -/
import Derived.Test.YtjlonhiojgljcaaGreatN4
import Derived.Test.YtjlonhiojgljcaaGreatN5
import Derived.Test.YtjlonhiojgljcaaGreatX1
import Derived.Test.YtjlonhiojgljcaaGreatD6
import Derived.Shelf.SlSortCmp.NoneTotal
set_option linter.unusedVariables false
set_option linter.unusedSimpArgs false
set_option maxRecDepth 10000
set_option maxHeartbeats 4000000
namespace Go.Proofs.VI
open Go
def encP (p : GPlaced) : List Value := [.int .i64 p.mod, .int .i64 p.sect, .int .i64 p.pos]
def cfW (x y : GPlaced) : Int := Go.RowKit.wrap64 (Go.RowKit.wrap64 (Go.RowKit.wrap64 (Go.RowKit.wrap64 (x.mod - y.mod) * 8) + x.sect) - y.sect)
def keyOk (p : GPlaced) : Prop := 0 ≤ p.mod ∧ p.mod ≤ 1099511627776 ∧ 0 ≤ p.sect ∧ p.sect < 8
theorem cfW_key {x y : GPlaced} (hx : keyOk x) (hy : keyOk y) : cfW x y = keyP x - keyP y := by
  obtain ⟨a, b, c, d⟩ := hx
  obtain ⟨a', b', c', d'⟩ := hy
  simp only [cfW, Go.RowKit.wrap64, keyP]
  omega
set_option maxHeartbeats 4000000 in
theorem clo_PlaceAll (x y : GPlaced) (W : World) : Calls Tryz.prog 84 #[.agg #[.int .i64 x.mod, .int .i64 x.sect, .int .i64 x.pos], .agg #[.int .i64 y.mod, .int .i64 y.sect, .int .i64 y.pos]] W fun e w' => e = .returned (.int .i64 (cfW x y)) ∧ ∃ q os', w' = Go.Sort.grow (W.drewN q) os' := by
  unfold cfW
  go_enter Tryz.func84, Tryz.ntmps84
  go_wp2
  go_ret
  exact ⟨rfl, 0, _, by rw [Go.Sort.alloc_eq_grow, Go.Sort.alloc_eq_grow, Go.Sort.grow_grow]; rfl⟩
theorem getP {l : List Value} {j : Nat} {v : Value} (h : l[j]? = some v) : l[j]! = v := by rw [getElem!_def, h]
theorem placed_val (x : GPlaced) (j : Nat) (v : AV) (hj : (GPlaced.ow x)[j]? = some v) (w : World) (κ : Gh) (K : Option Key) (u : Value) : relV w κ noL K v u ↔ (encP x)[j]? = some u := by
  rcases j with _ | _ | _ | j
  · have e : v = .int .i64 x.mod := (Option.some.inj hj).symm
    subst e
    exact ⟨fun h => congrArg some (show u = Value.int .i64 x.mod from h).symm, fun h => show u = Value.int .i64 x.mod from (Option.some.inj h).symm⟩
  · have e : v = .int .i64 x.sect := (Option.some.inj hj).symm
    subst e
    exact ⟨fun h => congrArg some (show u = Value.int .i64 x.sect from h).symm, fun h => show u = Value.int .i64 x.sect from (Option.some.inj h).symm⟩
  · have e : v = .int .i64 x.pos := (Option.some.inj hj).symm
    subst e
    exact ⟨fun h => congrArg some (show u = Value.int .i64 x.pos from h).symm, fun h => show u = Value.int .i64 x.pos from (Option.some.inj h).symm⟩
  · cases hj
theorem con_SortP (L : List GPlaced) (hl : L.length ≤ 1099511627776) (hk : ∀ p ∈ L, keyOk p) (hn : (L.map keyP).Nodup) : Con 83 [.ow 3 (GPlaced.ows L), .fn 84 []] (.tup []) [some (.ow 3 (GPlaced.ows (ordK keyP L))), none] := by
  refine contract_sort (k := 3) (by decide) GPlaced.ow encP (fun _ => rfl) (fun _ => rfl) placed_val [.fn 84 []] [.func (.func 84) #[] #[]] (fun w κ us h => ?_) (Go.Proofs.enters_of Tryz.func83 (by kernel_rfl) rfl) L (ordK keyP L) (ordK_len keyP L) (fun _ p cap w => Go.Proofs.AnyF.slices_SortFunc_none Go.Proofs.Tryz.sortP p cap _ w) (fun hne blk off cap w hc hb hcap => ?_)
  · obtain ⟨u, us', rfl, ⟨vs, rfl, h2⟩, rfl⟩ := h
    have : vs = [] := h2
    subst this
    rfl
  · haveI : Inhabited { p // p ∈ L } := ⟨⟨L.head hne, List.head_mem hne⟩⟩
    let enc : { p // p ∈ L } → List Value := fun p => encP p.1
    let cf : { p // p ∈ L } → { p // p ∈ L } → Int := fun x y => cfW x.1 y.1
    have hcf : ∀ x y : { p // p ∈ L }, cf x y = keyP x.1 - keyP y.1 := fun x y => cfW_key (hk _ x.2) (hk _ y.2)
    have hlt : ∀ x y : { p // p ∈ L }, Go.Proofs.ltOf cf x y = decide (keyP x.1 < keyP y.1) := fun x y => by
      unfold Go.Proofs.ltOf
      rw [hcf]
      exact decide_eq_decide.2 ⟨fun h => by omega, fun h => by omega⟩
    have inj : ∀ x ∈ L, ∀ y ∈ L, keyP x = keyP y → x = y := fun a ha b hb e => by
      obtain ⟨i, hi, ea⟩ := List.mem_iff_getElem.1 ha
      obtain ⟨j, hj, eb⟩ := List.mem_iff_getElem.1 hb
      rw [List.Nodup, List.pairwise_map] at hn
      rw [← ea, ← eb] at e ⊢
      rcases Nat.lt_trichotomy i j with h | h | h
      · exact absurd e (List.pairwise_iff_getElem.1 hn i j hi hj h)
      · subst h; rfl
      · exact absurd e.symm (List.pairwise_iff_getElem.1 hn j i hj hi h)
    have hO : Go.Sort.SWO (Go.Proofs.ltOf cf) := ⟨fun x => by rw [hlt]; simp, fun x y z h1 h2 => by rw [hlt, decide_eq_true_eq] at *; omega, fun x y z h1 h2 => by rw [hlt, decide_eq_false_iff_not] at *; omega⟩
    have hT : ∀ x y : { p // p ∈ L }, Go.Proofs.ltOf cf x y = false → Go.Proofs.ltOf cf y x = false → x = y := fun x y h1 h2 => by
      rw [hlt, decide_eq_false_iff_not] at h1 h2
      exact Subtype.ext (inj _ x.2 _ y.2 (by omega))
    have hat : ∀ i (h : i < L.length), L.attach.toArray[i]! = ⟨L[i], List.getElem_mem h⟩ := fun i h => by
      rw [getElem!_def, List.getElem?_toArray, List.getElem?_eq_getElem (by simpa using h)]
      simp
    have hsz : L.attach.toArray.size = L.length := by simp
    have hH : Go.Sort.HoldsK enc 3 w blk off L.attach.toArray := fun t ht => by
      have ht3 : t < L.attach.toArray.size * 3 := by simpa using ht
      rw [Go.Sort.get_flatK enc 3 _ t ht3]
      rw [hsz] at ht3
      have hd : t / 3 < L.length := by omega
      rw [hat _ hd]
      have hm : t % 3 < (encP L[t / 3]).length := by show t % 3 < 3; omega
      have h := hc (t / 3) L[t / 3] (List.getElem?_eq_getElem hd) (t % 3) _ (List.getElem?_eq_getElem hm)
      rw [show t / 3 * 3 + t % 3 = t by omega] at h
      have e : (encP L[t / 3])[t % 3]! = (encP L[t / 3])[t % 3] := getElem!_pos (encP L[t / 3]) (t % 3) hm
      show _ = some (id (encP L[t / 3])[t % 3]!) ∧ _
      rw [e]
      exact h
    have h := Go.Proofs.AnyQ.slices_SortFunc_total Go.Proofs.Tryz.sortP 3 Tryz.isAgg123 Tryz.sizeOf123 enc (fun _ => rfl) (fun x v hv => by
      simp only [enc, encP, List.mem_cons, List.not_mem_nil, or_false] at hv
      rcases hv with rfl | rfl | rfl <;> rfl) cf hO 84 #[] blk off cap L.attach.toArray w (Go.Proofs.enters_of Tryz.func84 (by kernel_rfl) rfl) (fun _ _ _ _ x y => clo_PlaceAll x.1 y.1 _) hH hb (by rw [hsz]; omega) hT
    rw [hsz] at h
    refine h.mono ?_
    rintro e w' ⟨rfl, n, os, rfl⟩
    refine ⟨rfl, ?_⟩
    generalize hM : L.attach.toArray.toList.mergeSort (fun x y => !(Go.Proofs.ltOf cf) y x) = S
    have hp : S.Perm L.attach := by rw [← hM]; simpa using List.mergeSort_perm L.attach.toArray.toList (fun x y => !(Go.Proofs.ltOf cf) y x)
    have hs : S.Pairwise fun a b => keyP a.1 ≤ keyP b.1 := by
      have := List.pairwise_mergeSort (le := fun x y => !(Go.Proofs.ltOf cf) y x) (fun a b c h1 h2 => by
        simp only [hlt, Bool.not_eq_true', decide_eq_false_iff_not] at *
        omega) (fun a b => by
        simp only [hlt, Bool.or_eq_true, Bool.not_eq_true', decide_eq_false_iff_not]
        omega) L.attach.toArray.toList
      rw [hM] at this
      refine this.imp fun h => ?_
      simp only [hlt, Bool.not_eq_true', decide_eq_false_iff_not] at h
      omega
    have hv : S.map Subtype.val = ordK keyP L := by
      refine ordK_eq keyP hn ?_ ?_
      · have := hp.map Subtype.val
        rwa [List.attach_map_subtype_val] at this
      · rw [List.pairwise_map]; exact hs
    have hSl : S.length = L.length := by rw [hp.length_eq]; simp
    refine (rowEnd_put id w n blk off (Go.Sort.flatK enc 3 S.toArray) os hb).mono fun C C' hQ i x hx j v hv2 hlt2 => ?_
    have hi : i < S.length := by
      have := (List.getElem?_eq_some_iff.1 hx).1
      rw [ordK_len] at this; omega
    have hj : j < 3 := (List.getElem?_eq_some_iff.1 hv2).1
    have hsS : S.toArray.size = S.length := by simp
    have hq := hQ (i * 3 + j) (by rw [Go.Sort.size_flatK, hsS]; omega) hlt2
    rw [hq, Go.Sort.get_flatK enc 3 _ _ (by rw [hsS]; omega), show (i * 3 + j) / 3 = i by omega, show (i * 3 + j) % 3 = j by omega]
    have e : (S.toArray[i]!).1 = x := by
      rw [← hv, List.getElem?_map, List.getElem?_eq_getElem hi] at hx
      rw [getElem!_def, List.getElem?_toArray, List.getElem?_eq_getElem hi]
      exact Option.some.inj hx
    show some (id (encP (S.toArray[i]!).1)[j]!) = some v
    rw [e, getP hv2]; rfl
end Go.Proofs.VI
