/- Contracts of functions, and what they rest on: l04spec. -/
import Derived.Test.YtkbdnmmnnkoenaaM2
set_option linter.unusedVariables false
set_option linter.unusedSimpArgs false
set_option maxRecDepth 10000
set_option maxHeartbeats 4000000
namespace Go.Proofs.VI
open Go
theorem spec_l4Opd (n : Int) : Con 105 [.int .i64 n] (.agg (GOpd.ow ⟨n / 8 % 8, n % 8, 0⟩)) [none] := by
  refine con Try.func105 ?_
  refine ⟨by decide, .of_eq ?_, trivial⟩
  simp only [shr_3, and_7]; rfl
theorem match_16 {w : Int} {i : Nat} (h : 1 ≤ i) (h2 : i ≤ 6) : matchB w i = decide (w - w % 4096 = baseV i) := by
  rw [matchB, freeV, if_pos (inI_t (by omega))]; rfl
theorem match_714 {w : Int} {i : Nat} (h : 7 ≤ i) (h2 : i ≤ 14) : matchB w i = decide (w - w % 64 = baseV i) := by
  rw [matchB, freeV, if_neg (by rw [inI_f (by omega)]; simp), if_neg (by omega), if_pos (inI_t (by omega))]; rfl
theorem match_1721 {w : Int} {i : Nat} (h : 17 ≤ i) (h2 : i ≤ 21) : matchB w i = decide (w - w % 256 = baseV i) := by
  rw [matchB, freeV, if_neg (by rw [inI_f (by omega)]; simp), if_neg (by omega), if_neg (by rw [inI_f (by omega)]; simp), if_neg (by omega), if_pos (by rw [inI_t (by omega)]; rfl)]; rfl
theorem match_15 {w : Int} : matchB w 15 = decide (w - w % 512 = 2048) := rfl
theorem match_16' {w : Int} : matchB w 16 = decide (w - w % 8 = 128) := rfl
theorem match_22 {w : Int} : matchB w 22 = decide (w = 0) := by
  show decide (w - w % 1 = 0) = _
  congr 1; rw [Int.emod_one]; simp
theorem match_23 {w : Int} : matchB w 23 = decide (w - w % 256 = 34816) := rfl
def opIns (w : Int) : GIns := if opV w = 0 then ⟨0, zOpd, zOpd, 0⟩ else insV w (opV w)
theorem opIns_at {w : Int} {i : Nat} (h : opV w = i) (hi : 1 ≤ i) : opIns w = insV w i := by
  rw [opIns, h, if_neg (by omega)]
theorem opIns_16 {w : Int} {i : Nat} (h : opV w = i) (hi : 1 ≤ i) (h2 : i ≤ 6) : opIns w = ⟨i, ⟨w / 64 / 8 % 8, w / 64 % 8, 0⟩, ⟨w / 8 % 8, w % 8, 0⟩, 0⟩ := by
  rw [opIns_at h hi, insV, if_pos (inI_t (by omega)), if_pos (inI_t (by omega)), numV, if_neg (by omega), if_neg (by omega), if_neg (by omega), if_neg (by rw [inI_f (by omega)]; simp), show w / 64 / 8 = w / 512 by omega]
theorem opIns_714 {w : Int} {i : Nat} (h : opV w = i) (hi : 7 ≤ i) (h2 : i ≤ 14) : opIns w = ⟨i, zOpd, ⟨w / 8 % 8, w % 8, 0⟩, 0⟩ := by
  rw [opIns_at h (by omega), insV, if_neg (by rw [inI_f (by omega)]; simp), if_pos (inI_t (by omega)), numV, if_neg (by omega), if_neg (by omega), if_neg (by omega), if_neg (by rw [inI_f (by omega)]; simp)]
theorem opIns_1721 {w : Int} {i : Nat} (h : opV w = i) (hi : 17 ≤ i) (h2 : i ≤ 21) : opIns w = ⟨i, zOpd, zOpd, relN w⟩ := by
  rw [opIns_at h (by omega), insV, if_neg (by rw [inI_f (by omega)]; simp), if_neg (by rw [inI_f (by omega)]; simp), numV, if_neg (by omega), if_neg (by omega), if_neg (by omega), if_pos (inI_t (by omega))]
theorem and_61440 (w : Int) (h0 : 0 ≤ w) (h1 : w ≤ 65535) : bitsI .and .i64 w 61440 = w - w % 4096 := and_hi w h0 h1 12 (by decide)
theorem and_65472 (w : Int) (h0 : 0 ≤ w) (h1 : w ≤ 65535) : bitsI .and .i64 w 65472 = w - w % 64 := and_hi w h0 h1 6 (by decide)
theorem and_65024 (w : Int) (h0 : 0 ≤ w) (h1 : w ≤ 65535) : bitsI .and .i64 w 65024 = w - w % 512 := and_hi w h0 h1 9 (by decide)
theorem and_65528 (w : Int) (h0 : 0 ≤ w) (h1 : w ≤ 65535) : bitsI .and .i64 w 65528 = w - w % 8 := and_hi w h0 h1 3 (by decide)
theorem and_65280 (w : Int) (h0 : 0 ≤ w) (h1 : w ≤ 65535) : bitsI .and .i64 w 65280 = w - w % 256 := and_hi w h0 h1 8 (by decide)
theorem spec_l4Op (w : Int) (h0 : 0 ≤ w) (h1 : w ≤ 65535) : Con 90 [.int .i64 w] (.agg (GIns.ow (opIns w))) [none] := by
  refine con Try.func90 ?_
  refine ⟨fun h => ⟨?_, trivial⟩, fun h => ?_⟩ <;> simp only [decide_eq_true_eq, decide_eq_false_iff_not] at h
  · subst h
    have : opV 0 = 22 := by decide +kernel
    have : opIns 0 = ⟨22, zOpd, zOpd, 0⟩ := by rw [opIns, this]; rfl
    rw [this]; exact .refl _
  · have hz := h
    refine ⟨{ i : Nat // 1 ≤ i ∧ i ≤ 7 ∧ ∀ j : Nat, 1 ≤ j → j < i → matchB w j = false }, fun i => ⟨[(0, .int .i64 w), (2, .ptr 0 0 0), (3, .int .i64 i.1)], [(0, .box (GIns.ow ⟨0, zOpd, zOpd, 0⟩) [])]⟩, fun i => 7 - i.1, ⟨1, Nat.le_refl _, by decide, fun j h2 h3 => by omega⟩, ?_, ?_⟩
    · exact ⟨rfl, rfl, rfl, rfl, .refl _, trivial⟩
    · rintro ⟨i, hi1, hi2, hb⟩
      dsimp only
      refine ⟨fun h => ?_, fun h => ?_⟩ <;> simp only [decide_eq_true_eq, decide_eq_false_iff_not] at h
      · have hlt : i ≤ 6 := by omega
        refine ⟨[.ro], .int .i64 (baseV i), [none], spec_l4Base i (by omega) (by omega), trivial, fun h => ?_, fun h => ?_⟩ <;> rw [and_61440 w h0 h1, ← match_16 hi1 hlt] at h
        · have ho := opV_hit w i hi1 (by omega) hb h
          refine ⟨by decide, [.ro], .agg (GOpd.ow ⟨w / 64 / 8 % 8, w / 64 % 8, 0⟩), [none], (by simp only [shr_6]; exact spec_l4Opd _), trivial, [.ro], .agg (GOpd.ow ⟨w / 8 % 8, w % 8, 0⟩), [none], spec_l4Opd w, trivial, ?_, trivial⟩
          rw [opIns_16 ho hi1 hlt]; exact .refl _
        · refine ⟨⟨i + 1, by omega, by omega, fun j g1 g2 => ?_⟩, (by dsimp only; omega), (by (repeat' (first | exact trivial | (refine And.intro (congrArg (AV.int .i64) (w64 ?_ ?_)) ?_; omega; omega) | refine And.intro rfl ?_ | refine And.intro (SimRows.refl _) ?_ | (refine And.intro (SimRows.of_eq ?_) ?_; (first | assumption | rfl)) | (refine And.intro (congrArg (AV.int .i64) ?_) ?_; (first | assumption | omega)) | fail)); done)⟩
          rcases Nat.lt_or_ge j i with g3 | g3
          · exact hb j g1 g3
          · rw [show j = i by omega]; exact h
      · have hb1 : ∀ j : Nat, 1 ≤ j → j < 7 → matchB w j = false := fun j g1 g2 => hb j g1 (by omega)
        clear hb
        refine ⟨{ i : Nat // 7 ≤ i ∧ i ≤ 15 ∧ ∀ j : Nat, 1 ≤ j → j < i → matchB w j = false }, fun i => ⟨[(0, .int .i64 w), (2, .ptr 0 0 0), (4, .int .i64 i.1)], [(0, .box (GIns.ow ⟨0, zOpd, zOpd, 0⟩) [])]⟩, fun i => 15 - i.1, ⟨7, Nat.le_refl _, by decide, hb1⟩, ?_, ?_⟩
        · exact ⟨rfl, rfl, rfl, rfl, .refl _, trivial⟩
        · rintro ⟨i, hi1, hi2, hb⟩
          dsimp only
          refine ⟨fun h => ?_, fun h => ?_⟩ <;> simp only [decide_eq_true_eq, decide_eq_false_iff_not] at h
          · have hlt : i ≤ 14 := by omega
            refine ⟨[.ro], .int .i64 (baseV i), [none], spec_l4Base i (by omega) (by omega), trivial, fun h => ?_, fun h => ?_⟩ <;> rw [and_65472 w h0 h1, ← match_714 hi1 hlt] at h
            · have ho := opV_hit w i (by omega) (by omega) hb h
              refine ⟨[.ro], .agg (GOpd.ow ⟨w / 8 % 8, w % 8, 0⟩), [none], spec_l4Opd w, trivial, ?_, trivial⟩
              rw [opIns_714 ho hi1 hlt]; exact .refl _
            · refine ⟨⟨i + 1, by omega, by omega, fun j g1 g2 => ?_⟩, (by dsimp only; omega), (by (repeat' (first | exact trivial | (refine And.intro (congrArg (AV.int .i64) (w64 ?_ ?_)) ?_; omega; omega) | refine And.intro rfl ?_ | refine And.intro (SimRows.refl _) ?_ | (refine And.intro (SimRows.of_eq ?_) ?_; (first | assumption | rfl)) | (refine And.intro (congrArg (AV.int .i64) ?_) ?_; (first | assumption | omega)) | fail)); done)⟩
              rcases Nat.lt_or_ge j i with g3 | g3
              · exact hb j g1 g3
              · rw [show j = i by omega]; exact h
          · have hb2 : ∀ j : Nat, 1 ≤ j → j < 15 → matchB w j = false := fun j g1 g2 => hb j g1 (by omega)
            clear hb hb1
            refine ⟨fun h15 => ?_, fun h15 => ⟨fun h16 => ?_, fun h16 => ⟨fun h23 => ?_, fun h23 => ?_⟩⟩⟩
            · rw [and_65024 w h0 h1, ← match_15] at h15
              have ho := opV_hit w 15 (by decide) (by decide) hb2 h15
              refine ⟨by decide, [.ro], .agg (GOpd.ow ⟨w / 8 % 8, w % 8, 0⟩), [none], spec_l4Opd w, trivial, .of_eq ?_, trivial⟩
              rw [opIns_at ho (by decide)]
              simp only [shr_6, and_7]; rfl
            · rw [and_65024 w h0 h1, ← match_15] at h15
              rw [and_65528 w h0 h1, ← match_16'] at h16
              have ho := opV_hit w 16 (by decide) (by decide) (fun j g1 g2 => by
                rcases Nat.lt_or_ge j 15 with g3 | g3
                · exact hb2 j g1 g3
                · rw [show j = 15 by omega]; exact h15) h16
              refine ⟨.of_eq ?_, trivial⟩
              rw [opIns_at ho (by decide)]
              simp only [and_7]; rfl
            · rw [and_65024 w h0 h1, ← match_15] at h15
              rw [and_65528 w h0 h1, ← match_16'] at h16
              rw [and_65280 w h0 h1, ← match_23] at h23
              have h23' := h23
              rw [match_23, decide_eq_true_eq] at h23'
              have ho := opV_hit w 23 (by decide) (by decide) (fun j g1 g2 => by
                rcases Nat.lt_or_ge j 15 with g3 | g3
                · exact hb2 j g1 g3
                · have : j = 15 ∨ j = 16 ∨ j = 17 ∨ j = 18 ∨ j = 19 ∨ j = 20 ∨ j = 21 ∨ j = 22 := by omega
                  rcases this with rfl | rfl | rfl | rfl | rfl | rfl | rfl | rfl
                  · exact h15
                  · exact h16
                  · rw [match_1721 (by decide) (by decide), h23']; rfl
                  · rw [match_1721 (by decide) (by decide), h23']; rfl
                  · rw [match_1721 (by decide) (by decide), h23']; rfl
                  · rw [match_1721 (by decide) (by decide), h23']; rfl
                  · rw [match_1721 (by decide) (by decide), h23']; rfl
                  · show matchB w 22 = false
                    rw [match_22, decide_eq_false hz]) h23
              refine ⟨.of_eq ?_, trivial⟩
              rw [opIns_at ho (by decide)]
              simp only [and_255]; rfl
            · rw [and_65024 w h0 h1, ← match_15] at h15
              rw [and_65528 w h0 h1, ← match_16'] at h16
              rw [and_65280 w h0 h1, ← match_23] at h23
              have hb3 : ∀ j : Nat, 1 ≤ j → j < 17 → matchB w j = false := fun j g1 g2 => by
                rcases Nat.lt_or_ge j 15 with g3 | g3
                · exact hb2 j g1 g3
                · have : j = 15 ∨ j = 16 := by omega
                  rcases this with rfl | rfl
                  · exact h15
                  · exact h16
              refine ⟨{ i : Nat // 17 ≤ i ∧ i ≤ 22 ∧ ∀ j : Nat, 1 ≤ j → j < i → matchB w j = false }, fun i => ⟨[(0, .int .i64 w), (2, .ptr 0 0 0), (5, .int .i64 i.1)], [(0, .box (GIns.ow ⟨0, zOpd, zOpd, 0⟩) [])]⟩, fun i => 22 - i.1, ⟨17, Nat.le_refl _, by decide, hb3⟩, ?_, ?_⟩
              · exact ⟨rfl, rfl, rfl, rfl, .refl _, trivial⟩
              · rintro ⟨i, hi1, hi2, hb⟩
                dsimp only
                refine ⟨fun h => ?_, fun h => ⟨?_, trivial⟩⟩ <;> simp only [decide_eq_true_eq, decide_eq_false_iff_not] at h
                · have hlt : i ≤ 21 := by omega
                  refine ⟨[.ro], .int .i64 (baseV i), [none], spec_l4Base i (by omega) (by omega), trivial, fun h => ?_, fun h => ?_⟩ <;> rw [and_65280 w h0 h1, ← match_1721 hi1 hlt] at h
                  · have ho := opV_hit w i (by omega) (by omega) hb h
                    refine ⟨fun g => ⟨.of_eq ?_, trivial⟩, fun g => ⟨.of_eq ?_, trivial⟩⟩ <;> simp only [and_255, decide_eq_true_eq, decide_eq_false_iff_not] at g ⊢
                    · rw [opIns_1721 ho hi1 hlt, relN, if_pos g, w64 (by omega) (by omega)]; rfl
                    · rw [opIns_1721 ho hi1 hlt, relN, if_neg g]; rfl
                  · refine ⟨⟨i + 1, by omega, by omega, fun j g1 g2 => ?_⟩, (by dsimp only; omega), (by (repeat' (first | exact trivial | (refine And.intro (congrArg (AV.int .i64) (w64 ?_ ?_)) ?_; omega; omega) | refine And.intro rfl ?_ | refine And.intro (SimRows.refl _) ?_ | (refine And.intro (SimRows.of_eq ?_) ?_; (first | assumption | rfl)) | (refine And.intro (congrArg (AV.int .i64) ?_) ?_; (first | assumption | omega)) | fail)); done)⟩
                    rcases Nat.lt_or_ge j i with g3 | g3
                    · exact hb j g1 g3
                    · rw [show j = i by omega]; exact h
                · have ho := opV_miss w fun j g1 g2 => by
                    rcases Nat.lt_or_ge j 22 with g3 | g3
                    · exact hb j g1 (by omega)
                    · have : j = 22 ∨ j = 23 := by omega
                      rcases this with rfl | rfl
                      · show matchB w 22 = false
                        rw [match_22, decide_eq_false hz]
                      · exact h23
                  rw [opIns, if_pos ho]; exact .refl _
theorem opV_in (w : Int) : 0 ≤ opV w ∧ opV w ≤ 23 := by
  rw [opV]
  split
  · rename_i i h
    have := List.mem_of_find?_eq_some h
    simp at this
    omega
  · omega
theorem hasX_set (o : GOpd) (v : Int) : hasX ⟨o.mode, o.reg, v⟩ = hasX o := rfl
theorem opdE_of {o : GOpd} (h1 : 0 ≤ o.mode ∧ o.mode ≤ 7) (h2 : 0 ≤ o.reg ∧ o.reg ≤ 7) (h3 : 0 ≤ o.x ∧ o.x ≤ 65535) (h4 : o.x = 0 ∨ hasX o = true) : opdE o = true := by
  rw [opdE, inI_t h1, inI_t h2, inI_t h3]
  rcases h4 with h4 | h4 <;> simp [h4]
theorem insE_ok {l : List Int} {p : Nat} {w op : Int} (hw : wordsP l) (h0 : 1 ≤ op) (h1 : op ≤ 23) : insE (withX l p (insV w op)) = true := by
  have hg : ∀ i, 0 ≤ l.getD i 0 ∧ l.getD i 0 ≤ 65535 := fun i => by
    rw [List.getD_eq_getElem?_getD]
    cases h : l[i]? with
    | none => simp
    | some x => exact hw x (List.mem_of_getElem? h)
  have hz : zB zOpd = true := rfl
  have hx : ∀ o : GOpd, hasX o = false → (0 ≤ o.mode ∧ o.mode ≤ 7) → (0 ≤ o.reg ∧ o.reg ≤ 7) → o.x = 0 → opdE o = true := fun o _ h1 h2 h3 => opdE_of h1 h2 (by omega) (.inl h3)
  have hop : (withX l p (insV w op)).op = op := by rw [withX]; split <;> split <;> rfl
  have hn : (withX l p (insV w op)).n = numV w op := by rw [withX]; split <;> split <;> rfl
  have hdst : 1 ≤ op → op ≤ 15 → opdE (withX l p (insV w op)).dst = true := fun a b => by
    have e : (insV w op).dst = ⟨w / 8 % 8, w % 8, 0⟩ := by rw [insV, if_pos (inI_t (x := op) (lo := 1) (hi := 15) (by omega))]
    cases hd : dstX (insV w op) with
    | true =>
      have hX : hasX (insV w op).dst = true := by simp only [dstX, Bool.and_eq_true] at hd; exact hd.2
      rw [withX]
      split
      · try rw [if_pos hd]
        exact opdE_of (by show 0 ≤ (insV w op).dst.mode ∧ (insV w op).dst.mode ≤ 7; rw [e]; dsimp only; omega) (by show 0 ≤ (insV w op).dst.reg ∧ (insV w op).dst.reg ≤ 7; rw [e]; dsimp only; omega) (hg _) (.inr hX)
      · try rw [if_pos hd]
        exact opdE_of (by show 0 ≤ (insV w op).dst.mode ∧ (insV w op).dst.mode ≤ 7; rw [e]; dsimp only; omega) (by show 0 ≤ (insV w op).dst.reg ∧ (insV w op).dst.reg ≤ 7; rw [e]; dsimp only; omega) (hg _) (.inr hX)
    | false =>
      have e2 : (withX l p (insV w op)).dst = ⟨w / 8 % 8, w % 8, 0⟩ := by rw [withX]; split <;> rw [if_neg (by rw [hd]; simp)] <;> exact e
      rw [e2]
      exact opdE_of (by dsimp only; omega) (by dsimp only; omega) (by dsimp only; omega) (.inl rfl)
  have hsrc : 1 ≤ op → op ≤ 6 → opdE (withX l p (insV w op)).src = true := fun a b => by
    have e : (insV w op).src = ⟨w / 512 % 8, w / 64 % 8, 0⟩ := by rw [insV, if_pos (inI_t (x := op) (lo := 1) (hi := 6) (by omega))]
    cases hd : srcX (insV w op) with
    | true =>
      have hX : hasX (insV w op).src = true := by simp only [srcX, Bool.and_eq_true] at hd; exact hd.2
      rw [withX, if_pos hd]
      split <;> exact opdE_of (by show 0 ≤ (insV w op).src.mode ∧ (insV w op).src.mode ≤ 7; rw [e]; dsimp only; omega) (by show 0 ≤ (insV w op).src.reg ∧ (insV w op).src.reg ≤ 7; rw [e]; dsimp only; omega) (hg _) (.inr hX)
    | false =>
      have e2 : (withX l p (insV w op)).src = ⟨w / 512 % 8, w / 64 % 8, 0⟩ := by rw [withX, if_neg (by rw [hd]; simp)]; split <;> exact e
      rw [e2]
      exact opdE_of (by dsimp only; omega) (by dsimp only; omega) (by dsimp only; omega) (.inl rfl)
  have hzs : ¬ (1 ≤ op ∧ op ≤ 6) → zB (withX l p (insV w op)).src = true := fun a => by
    have e : (insV w op).src = zOpd := by rw [insV, if_neg (by rw [inI_f a]; simp)]
    have hd : srcX (insV w op) = false := by
      show (inI op 1 6 && _) = false
      rw [inI_f a]; rfl
    have : (withX l p (insV w op)).src = zOpd := by rw [withX, if_neg (by rw [hd]; simp)]; split <;> exact e
    rw [this]; rfl
  have hzd : ¬ (1 ≤ op ∧ op ≤ 15) → zB (withX l p (insV w op)).dst = true := fun a => by
    have e : (insV w op).dst = zOpd := by rw [insV, if_neg (c := inI op 1 15 = true) (by rw [inI_f a]; simp)]
    have hd : dstX (insV w op) = false := by
      show (inI op 1 15 && _) = false
      rw [inI_f a]; rfl
    have : (withX l p (insV w op)).dst = zOpd := by rw [withX]; split <;> rw [if_neg (by rw [hd]; simp)] <;> exact e
    rw [this]; rfl
  rw [insE, hop, hn]
  by_cases g1 : op ≤ 6
  · rw [if_pos (inI_t ⟨h0, g1⟩), hsrc h0 g1, hdst h0 (by omega), numV, if_neg (by omega), if_neg (by omega), if_neg (by omega), if_neg (by rw [inI_f (by omega)]; simp)]; rfl
  · rw [if_neg (by rw [inI_f (by omega)]; simp)]
    by_cases g2 : op ≤ 14
    · rw [if_pos (inI_t (by omega)), hzs (by omega), hdst h0 (by omega), numV, if_neg (by omega), if_neg (by omega), if_neg (by omega), if_neg (by rw [inI_f (by omega)]; simp)]; rfl
    · rw [if_neg (by rw [inI_f (by omega)]; simp)]
      by_cases g3 : op = 15
      · rw [if_pos g3, hzs (by omega), hdst h0 (by omega), numV, if_pos g3, inI_t (by omega)]; rfl
      · rw [if_neg g3, if_neg (by rw [hzs (by omega)]; simp), if_neg (by rw [hzd (by omega)]; simp), numV, if_neg g3]
        by_cases g4 : op = 16
        · rw [if_pos g4, if_pos g4, inI_t (by omega)]
        · rw [if_neg g4, if_neg g4]
          by_cases g5 : op ≤ 21
          · rw [if_pos (inI_t (x := op) (lo := 17) (hi := 21) (by omega)), if_neg (by omega), if_pos (inI_t (x := op) (lo := 17) (hi := 21) (by omega)), relN]
            split <;> exact inI_t (by omega)
          · rw [if_neg (by rw [inI_f (by omega)]; simp)]
            by_cases g6 : op = 22
            · rw [if_pos g6, if_neg (by omega), if_neg (by rw [inI_f (by omega)]; simp)]; rfl
            · rw [if_neg g6, if_pos (show op = 23 by omega), if_pos (show op = 23 by omega), inI_t (by omega)]
theorem spec_Decode (l : List Int) (p : Nat) (hl : l.length ≤ 1099511627776) (hw : wordsP l) (hp : p < l.length) : Con 76 [.ro 1 (GInt.ros l), .int .i64 p] (gD (decV l p)) [none, none] := by
  refine con Try.func76 ?_
  have hlen : (GInt.ros l).length = l.length := by simp
  have e1 : IntKind.wrap .i64 (((GInt.ros l).length : Int) - 1) = (l.length : Int) - 1 := by rw [hlen]; exact w64 (by omega) (by omega)
  have hr := int_row hp
  have hwp := wordsP_at hw p hp
  have c1 : Con 47 [.int .i64 p, .int .i64 0, .int .i64 ((l.length : Int) - 1)] (.bool true) [none, none, none] := by have := spec_l1In p 0 ((l.length : Int) - 1); rwa [inI_t (by omega)] at this
  have c2 : Con 47 [.int .i64 l[p], .int .i64 0, .int .i64 65535] (.bool true) [none, none, none] := by have := spec_l1In l[p] 0 65535; rwa [inI_t hwp] at this
  refine ⟨[.ro, .ro, .ro], .tt, [none, none, none], (by rw [e1]; exact c1), trivial, ?_⟩
  refine ⟨Int.natCast_nonneg _, _, hr, [.ro, .ro, .ro], .tt, [none, none, none], c2, trivial, ?_⟩
  refine ⟨Int.natCast_nonneg _, _, hr, [.ro], .agg (GIns.ow (opIns l[p])), [none], spec_l4Op l[p] hwp.1 hwp.2, trivial, ?_⟩
  have hoV := opV_in l[p]
  have w1 : IntKind.wrap .i64 ((p : Int) + 1) = ((p + 1 : Nat) : Int) := w64 (by omega) (by omega)
  have w2 : IntKind.wrap .i64 (((p + 1 : Nat) : Int) + 1) = ((p + 2 : Nat) : Int) := w64 (by omega) (by omega)
  by_cases hz : opV l[p] = 0
  · have e2 : decV l p = none := by rw [decV, getD_at hp, if_pos hz]
    have e3 : opIns l[p] = ⟨0, zOpd, zOpd, 0⟩ := by rw [opIns, if_pos hz]
    rw [e2, e3]
    have c3 := spec_HasX zOpd
    have c4 := spec_InsOk ⟨0, zOpd, zOpd, 0⟩
    have e5 : hasX zOpd = false := rfl
    have e6 : insE ⟨0, zOpd, zOpd, 0⟩ = false := rfl
    rw [e5] at c3
    rw [e6] at c4
    refine ⟨fun h => ⟨[.ro], .ff, [none], c3, trivial, fun h2 => ⟨[.ro], .ff, [none], c3, trivial, [.ro], .ff, [none], c4, trivial, .refl _, trivial⟩, fun h2 => absurd (of_decide_eq_false h2) (by decide)⟩, fun h => absurd (of_decide_eq_false h) (by decide)⟩
  · have e3 : opIns l[p] = insV l[p] (opV l[p]) := by rw [opIns, if_neg hz]
    have hD : decV l p = if wordsV (insV l[p] (opV l[p])) > l.length - p then none else some (withX l p (insV l[p] (opV l[p])), wordsV (insV l[p] (opV l[p]))) := by rw [decV, getD_at hp, if_neg hz]
    have hok := insE_ok (l := l) (p := p) (w := l[p]) (op := opV l[p]) hw (by omega) (by omega)
    have hop : (insV l[p] (opV l[p])).op = opV l[p] := rfl
    rw [e3]
    generalize opV l[p] = op at hz hD hop hok hoV ⊢
    generalize insV l[p] op = x at hD hop hok ⊢
    subst hop
    have hv := wordsV_eq x
    have i6 : decide (x.op ≤ 6) = inI x.op 1 6 := by rw [inI, decide_eq_true (show (1 : Int) ≤ x.op by omega)]; rfl
    have i15 : decide (x.op ≤ 15) = inI x.op 1 15 := by rw [inI, decide_eq_true (show (1 : Int) ≤ x.op by omega)]; rfl
    have r1 : p + 1 < l.length → 0 ≤ IntKind.wrap .i64 ((p : Int) + 1) ∧ (GInt.ros l)[(IntKind.wrap .i64 ((p : Int) + 1)).toNat]? = some [.int .i64 (l.getD (p + 1) 0)] := fun g => by
      rw [w1]
      exact ⟨by omega, by rw [Int.toNat_natCast, int_row g, getD_at g]; rfl⟩
    have r2 : p + 2 < l.length → 0 ≤ IntKind.wrap .i64 (IntKind.wrap .i64 ((p : Int) + 1) + 1) ∧ (GInt.ros l)[(IntKind.wrap .i64 (IntKind.wrap .i64 ((p : Int) + 1) + 1)).toNat]? = some [.int .i64 (l.getD (p + 2) 0)] := fun g => by
      rw [w1, w2]
      exact ⟨by omega, by rw [Int.toNat_natCast, int_row g, getD_at g]; rfl⟩
    have c5 := spec_HasX x.src
    have c6 := spec_HasX x.dst
    have c4 := spec_InsOk (withX l p x)
    rw [hok] at c4
    have d1 : IntKind.wrap .i64 (IntKind.wrap .i64 ((p : Int) + 1) - p) = 1 := by rw [w1, w64 (by omega) (by omega)]; omega
    have d2 : IntKind.wrap .i64 (IntKind.wrap .i64 (IntKind.wrap .i64 ((p : Int) + 1) + 1) - p) = 2 := by rw [w1, w2, w64 (by omega) (by omega)]; omega
    have d3 : IntKind.wrap .i64 (IntKind.wrap .i64 (IntKind.wrap .i64 (IntKind.wrap .i64 ((p : Int) + 1) + 1) + 1) - p) = 3 := by rw [w1, w2, w64 (x := ((p + 2 : Nat) : Int) + 1) (by omega) (by omega), w64 (by omega) (by omega)]; omega
    clear c1 c2 e1 hr hwp hok hoV
    rw [hD]
    clear hD
    cases h3 : srcX x <;> cases h4 : dstX x <;> rw [h3, h4] at hv <;> simp only [Bool.false_eq_true, if_false, if_true] at hv <;> simp only [withX, h3, h4, Bool.false_eq_true, if_false, if_true] at c4 ⊢
    · rw [if_neg (by omega)]
      repeat' (first | refine And.intro (fun (h : _ = true) => ?_) (fun (h : _ = false) => ?_) | refine And.intro (fun (h : _ = false) => ?_) (fun (h : _ = true) => ?_) | refine And.intro (show regOk _ _ = true from by kernel_rfl) ?_ | refine And.intro (Sim.of_eq ?_) trivial | refine ⟨[.ro], .bool _, [none], c5, trivial, ?_⟩ | refine ⟨[.ro], .bool _, [none], c6, trivial, ?_⟩ | refine ⟨[.ro], .tt, [none], c4, trivial, ?_⟩ | fail)
      all_goals clear c4 c5 c6 r1 r2
      all_goals first
        | (rw [d1, hv]; rfl)
        | (exfalso; rw [i6] at *; simp_all [srcX, dstX]; done)
        | (exfalso; simp_all [srcX, dstX]; done)
    · by_cases hf : p + 1 < l.length
      · obtain ⟨r1, r1'⟩ := r1 hf
        rw [if_neg (by omega)]
        repeat' (first | refine And.intro (fun (h : _ = true) => ?_) (fun (h : _ = false) => ?_) | refine And.intro (fun (h : _ = false) => ?_) (fun (h : _ = true) => ?_) | refine And.intro (show regOk _ _ = true from by kernel_rfl) ?_ | refine And.intro (Sim.of_eq ?_) trivial | refine ⟨[.ro], .bool _, [none], c5, trivial, ?_⟩ | refine ⟨[.ro], .bool _, [none], c6, trivial, ?_⟩ | refine ⟨[.ro], .tt, [none], c4, trivial, ?_⟩ | refine ⟨r1, _, r1', ?_⟩ | fail)
        all_goals clear c4 c5 c6 r1 r1' r2
        all_goals first
          | (rw [d2, hv]; rfl)
          | (exfalso; simp only [w1, hlen, decide_eq_true_eq] at *; omega)
          | (exfalso; simp_all [srcX, dstX]; done)
      · rw [if_pos (by omega)]
        repeat' (first | refine And.intro (fun (h : _ = true) => ?_) (fun (h : _ = false) => ?_) | refine And.intro (fun (h : _ = false) => ?_) (fun (h : _ = true) => ?_) | refine And.intro (show regOk _ _ = true from by kernel_rfl) ?_ | refine And.intro (Sim.of_eq ?_) trivial | refine ⟨[.ro], .bool _, [none], c5, trivial, ?_⟩ | refine ⟨[.ro], .bool _, [none], c6, trivial, ?_⟩ | refine ⟨[.ro], .tt, [none], c4, trivial, ?_⟩ | fail)
        all_goals clear c4 c5 c6 r1 r2
        all_goals first
          | rfl
          | (exfalso; simp only [w1, hlen, decide_eq_false_iff_not] at *; omega)
          | (exfalso; simp_all [srcX, dstX]; done)
    · by_cases hf : p + 1 < l.length
      · obtain ⟨r1, r1'⟩ := r1 hf
        rw [if_neg (by omega)]
        repeat' (first | refine And.intro (fun (h : _ = true) => ?_) (fun (h : _ = false) => ?_) | refine And.intro (fun (h : _ = false) => ?_) (fun (h : _ = true) => ?_) | refine And.intro (show regOk _ _ = true from by kernel_rfl) ?_ | refine And.intro (Sim.of_eq ?_) trivial | refine ⟨[.ro], .bool _, [none], c5, trivial, ?_⟩ | refine ⟨[.ro], .bool _, [none], c6, trivial, ?_⟩ | refine ⟨[.ro], .tt, [none], c4, trivial, ?_⟩ | refine ⟨r1, _, r1', ?_⟩ | fail)
        all_goals clear c4 c5 c6 r1 r1' r2
        all_goals first
          | (rw [d2, hv]; rfl)
          | (exfalso; simp only [w1, hlen, decide_eq_true_eq] at *; omega)
          | (exfalso; simp_all [srcX, dstX]; done)
      · rw [if_pos (by omega)]
        repeat' (first | refine And.intro (fun (h : _ = true) => ?_) (fun (h : _ = false) => ?_) | refine And.intro (fun (h : _ = false) => ?_) (fun (h : _ = true) => ?_) | refine And.intro (show regOk _ _ = true from by kernel_rfl) ?_ | refine And.intro (Sim.of_eq ?_) trivial | refine ⟨[.ro], .bool _, [none], c5, trivial, ?_⟩ | refine ⟨[.ro], .bool _, [none], c6, trivial, ?_⟩ | refine ⟨[.ro], .tt, [none], c4, trivial, ?_⟩ | fail)
        all_goals clear c4 c5 c6 r1 r2
        all_goals first
          | rfl
          | (exfalso; simp only [w1, hlen, decide_eq_false_iff_not] at *; omega)
          | (exfalso; simp_all [srcX, dstX]; done)
    · by_cases hf : p + 1 < l.length
      · obtain ⟨r1, r1'⟩ := r1 hf
        by_cases hf2 : p + 2 < l.length
        · obtain ⟨r2, r2'⟩ := r2 hf2
          rw [if_neg (by omega)]
          repeat' (first | refine And.intro (fun (h : _ = true) => ?_) (fun (h : _ = false) => ?_) | refine And.intro (fun (h : _ = false) => ?_) (fun (h : _ = true) => ?_) | refine And.intro (show regOk _ _ = true from by kernel_rfl) ?_ | refine And.intro (Sim.of_eq ?_) trivial | refine ⟨[.ro], .bool _, [none], c5, trivial, ?_⟩ | refine ⟨[.ro], .bool _, [none], c6, trivial, ?_⟩ | refine ⟨[.ro], .tt, [none], c4, trivial, ?_⟩ | refine ⟨r1, _, r1', ?_⟩ | refine ⟨r2, _, r2', ?_⟩ | fail)
          all_goals clear c4 c5 c6 r1 r1' r2 r2'
          all_goals first
            | (rw [d3, hv]; rfl)
            | (exfalso; simp only [w1, w2, hlen, decide_eq_true_eq] at *; omega)
            | (exfalso; simp_all [srcX, dstX]; done)
        · rw [if_pos (by omega)]
          repeat' (first | refine And.intro (fun (h : _ = true) => ?_) (fun (h : _ = false) => ?_) | refine And.intro (fun (h : _ = false) => ?_) (fun (h : _ = true) => ?_) | refine And.intro (show regOk _ _ = true from by kernel_rfl) ?_ | refine And.intro (Sim.of_eq ?_) trivial | refine ⟨[.ro], .bool _, [none], c5, trivial, ?_⟩ | refine ⟨[.ro], .bool _, [none], c6, trivial, ?_⟩ | refine ⟨[.ro], .tt, [none], c4, trivial, ?_⟩ | refine ⟨r1, _, r1', ?_⟩ | fail)
          all_goals clear c4 c5 c6 r1 r1' r2
          all_goals first
            | rfl
            | (exfalso; simp only [w1, w2, hlen, decide_eq_false_iff_not] at *; omega)
            | (exfalso; simp_all [srcX, dstX]; done)
      · rw [if_pos (by omega)]
        repeat' (first | refine And.intro (fun (h : _ = true) => ?_) (fun (h : _ = false) => ?_) | refine And.intro (fun (h : _ = false) => ?_) (fun (h : _ = true) => ?_) | refine And.intro (show regOk _ _ = true from by kernel_rfl) ?_ | refine And.intro (Sim.of_eq ?_) trivial | refine ⟨[.ro], .bool _, [none], c5, trivial, ?_⟩ | refine ⟨[.ro], .bool _, [none], c6, trivial, ?_⟩ | refine ⟨[.ro], .tt, [none], c4, trivial, ?_⟩ | fail)
        all_goals clear c4 c5 c6 r1 r2
        all_goals first
          | rfl
          | (exfalso; simp only [w1, w2, hlen, decide_eq_false_iff_not] at *; omega)
          | (exfalso; simp_all [srcX, dstX]; done)
end Go.Proofs.VI
