/- Contracts of functions, and what they rest on: l07right. -/
import Derived.Test.YtkbdnmmnnkoenaaM15
set_option linter.unusedVariables false
set_option linter.unusedSimpArgs false
set_option maxRecDepth 10000
set_option maxHeartbeats 4000000
namespace Go.Proofs.VI
open Go
theorem goesM_right {m : GMach} {op n : Int} (h : RightM m) : RightM (bif goesV m op then jmpR m n else m) := by
  cases goesV m op with
  | true => exact h.setR 7 (wr16_in _)
  | false => exact h
theorem goV_right {m m' : GMach} {p : GPlace} {n : Int} (h : RightM m) (hp : PlaceR p) (hg : goV m p n = some m') : RightM m' := by
  unfold goV at hg
  split at hg
  · cases hg
  · rename_i hr
    have hpos : 0 ≤ p.pos ∧ p.pos ≤ 65535 := by
      have hr : p.reg = -1 := Classical.byContradiction hr
      rcases hp with h1 | h1 <;> omega
    split at hg
    · split at hg
      · cases hg
      · rename_i m2 hs
        injection hg with hg
        subst hg
        have hm2 := stoV_right (h.setR 6 (wr16_in _) : RightM (pushM m)) hs
        exact (hm2.setR n (hm2.reg 7)).setR 7 hpos
    · injection hg with hg
      subst hg
      exact h.setR 7 hpos
theorem retV_right {m m' : GMach} {n : Int} (h : RightM m) (hg : retV m n = some m') : RightM m' := by
  unfold retV at hg
  split at hg
  · cases hg
  · rename_i x hx
    injection hg with hg
    subst hg
    have h1 := h.setR 7 (h.reg n)
    exact (h1.setR 6 (wr16_in _)).setR n (h1.read hx)
theorem emtV_right {m m' : GMach} {n : Int} (h : RightM m) (hg : emtV m n = some m') : RightM m' := by
  unfold emtV at hg
  split at hg
  · split at hg
    · rename_i hl
      injection hg with hg
      subst hg
      refine ⟨h.mem, h.r, h.inp, by simp; omega, h.wm, h.wr, h.wi, fun x hx => ?_, h.st⟩
      rcases List.mem_append.1 hx with hx | hx
      · exact h.wo x hx
      · rw [List.mem_singleton.1 hx]; exact h.reg 0
    · cases hg
  · split at hg
    · split at hg
      · injection hg with hg
        subst hg
        exact (h.setR 0 (by decide)).of rfl
      · rename_i x t ht
        injection hg with hg
        subst hg
        have hw := h.wi
        have hi := h.inp
        rw [ht] at hw hi
        have h1 := h.setR 0 (hw x (List.mem_cons_self ..))
        exact ⟨h1.mem, h1.r, by simp at hi; show t.length ≤ 50; omega, h1.out, h1.wm, h1.wr, fun y hy => hw y (List.mem_cons_of_mem _ hy), h1.wo, h1.st⟩
    · cases hg
theorem dblV_right {m m' : GMach} {op x : Int} {p : GPlace} (h : RightM m) (hg : dblV m op x p = some m') : RightM m' := by
  unfold dblV at hg
  split at hg
  · exact stoV_right (h.of rfl) hg
  · split at hg
    · cases hg
    · split at hg
      · injection hg with hg; subst hg; exact h.of rfl
      · exact stoV_right (h.of rfl) hg
theorem sglV_right {m m' : GMach} {op : Int} {p : GPlace} (h : RightM m) (hg : sglV m op p = some m') : RightM m' := by
  unfold sglV at hg
  split at hg
  · cases hg
  · split at hg
    · injection hg with hg; subst hg; exact h.of rfl
    · exact stoV_right (h.of rfl) hg
theorem doV_right {m m' : GMach} {i : GIns} (h : RightM m) (hi : InsR i) (hg : doV m i = some m') : RightM m' := by
  unfold doV at hg
  split at hg
  · split at hg
    · cases hg
    · rename_i p m1 hp
      split at hg
      · cases hg
      · split at hg
        · cases hg
        · rename_i q m2 hq
          exact dblV_right (placeV_right (placeV_right h hi.s hp).1 hi.d hq).1 hg
  · split at hg
    · split at hg
      · cases hg
      · rename_i q m1 hq
        obtain ⟨h1, hQ⟩ := placeV_right h hi.d hq
        split at hg
        · exact goV_right h1 hQ hg
        · exact sglV_right h1 hg
    · split at hg
      · exact retV_right h hg
      · split at hg
        · injection hg with hg; subst hg; exact goesM_right h
        · split at hg
          · injection hg with hg; subst hg
            exact ⟨h.mem, h.r, h.inp, h.out, h.wm, h.wr, h.wi, h.wo, (⟨by decide, by decide⟩ : (0 : Int) ≤ 1 ∧ (1 : Int) ≤ 2)⟩
          · exact emtV_right h hg
theorem stepV_right {m : GMach} (h : RightM m) : RightM (stepV m) := by
  have h2 : RightM { m with stop := 2 } := ⟨h.mem, h.r, h.inp, h.out, h.wm, h.wr, h.wi, h.wo, (⟨by decide, by decide⟩ : (0 : Int) ≤ 2 ∧ (2 : Int) ≤ 2)⟩
  unfold stepV
  split
  · split
    · exact h2
    · rename_i x hx
      split
      · exact h2
      · rename_i m' hm'
        exact doV_right (h.setR 7 (wr16_in _)) (decV_right (k := x.2) hx) hm'
  · exact h2
theorem stepE_cases (m : GMach) : stepE m = m ∨ RightM (stepE m) := by
  unfold stepE
  cases he : (machE m && decide (m.stop = 0)) with
  | false => exact .inl rfl
  | true =>
    simp only [Bool.and_eq_true] at he
    have hm : RightM m := Classical.byContradiction fun hn => by have h := he.1; rw [machE, dec_false hn] at h; cases h
    exact .inr (stepV_right hm)
theorem stepE_fit (m : GMach) (fm : GMach.fit m) : GMach.fit (stepE m) := by
  rcases stepE_cases m with h | h
  · rw [h]; exact fm
  · exact h.fit
theorem stepE_w (m : GMach) : GMach.tw (stepE m) ≤ GMach.tw m + 1000 := by
  rcases stepE_cases m with h | h
  · rw [h]; omega
  · have h1 := h.mem
    have h2 := h.r
    have h3 := h.inp
    have h4 := h.out
    show cntS GInt.w (stepE m).mem + cntS GInt.w (stepE m).r + cntS GInt.w (stepE m).inp + cntS GInt.w (stepE m).out ≤ _
    rw [cntI, cntI, cntI, cntI]
    omega
end Go.Proofs.VI
