/- Contracts of functions, and what they rest on: l17gob. -/
import Derived.Test.YtjlonhiojgljcaaGreatG2
import Derived.Test.YtjlonhiojgljcaaGreatG3
set_option linter.unusedVariables false
set_option linter.unusedSimpArgs false
set_option maxRecDepth 10000
set_option maxHeartbeats 4000000
namespace Go.Proofs.VI
open Go
theorem objI_good (b : List UInt8) (s : RS) : GObj.fit (objI b s).1 ∧ GObj.ok (objI b s).1 := by
  have hk := countS_in b 8 s (by decide)
  have h2 := countS_in b 20 (manyS (sectI b) (countS b 8 s).1.toNat (countS b 8 s).2).2 (by decide)
  have hS := manyS_all (f := sectI b) (Q := fun x => GSect.fit x ∧ GSect.ok x) (fun s => by
    have hn := countS_in b 256 (countS b 1 (textS b s).2).2 (by decide)
    have he := manyS_all (f := exprS false b 6) (Q := fun x => GExpr.fit x ∧ GExpr.ok x) (exprS_good false b 6) (countS b 256 (countS b 1 (textS b s).2).2).1.toNat (countS b 256 (countS b 1 (textS b s).2).2).2
    have hl := manyS_len (f := exprS false b 6) (countS b 256 (countS b 1 (textS b s).2).2).1.toNat (countS b 256 (countS b 1 (textS b s).2).2).2
    have ht := textS_in b s
    exact ⟨⟨by rw [sectI]; dsimp only; omega, fun x hx => (he x hx).1⟩, ⟨by rw [sectI]; dsimp only; omega, trivial, by rw [sectI]; dsimp only; omega, fun x hx => (he x hx).2⟩⟩) (countS b 8 s).1.toNat (countS b 8 s).2
  have hG := manyS_all (f := globI false b) (Q := fun x => GGlob.fit x ∧ GGlob.ok x) (fun s => by
    have he := exprS_good false b 6 (textS b s).2
    have ht := textS_in b s
    exact ⟨he.1, ⟨by rw [globI]; dsimp only; omega, he.2⟩⟩) (countS b 20 (manyS (sectI b) (countS b 8 s).1.toNat (countS b 8 s).2).2).1.toNat (countS b 20 (manyS (sectI b) (countS b 8 s).1.toNat (countS b 8 s).2).2).2
  have l1 := manyS_len (f := sectI b) (countS b 8 s).1.toNat (countS b 8 s).2
  have l2 := manyS_len (f := globI false b) (countS b 20 (manyS (sectI b) (countS b 8 s).1.toNat (countS b 8 s).2).2).1.toNat (countS b 20 (manyS (sectI b) (countS b 8 s).1.toNat (countS b 8 s).2).2).2
  exact ⟨⟨⟨by rw [objI]; dsimp only; omega, fun x hx => (hS x hx).1⟩, ⟨by rw [objI]; dsimp only; omega, fun x hx => (hG x hx).1⟩⟩, ⟨⟨by rw [objI]; dsimp only; omega, fun x hx => (hS x hx).2⟩, ⟨by rw [objI]; dsimp only; omega, fun x hx => (hG x hx).2⟩⟩⟩
theorem untS_good (b : List UInt8) (N M : Nat) (s t : RS) (hN : N ≤ 100) (hM : M ≤ 100) : GObj.fit ⟨(untilS (sectS b) N s).1, (untilS (globI true b) M t).1⟩ ∧ GObj.ok ⟨(untilS (sectS b) N s).1, (untilS (globI true b) M t).1⟩ := by
  have hS := untilS_all (f := sectS b) (Q := fun x => GSect.fit x ∧ GSect.ok x) (fun s => by
    have hw := wordS_in b (wordS b (textS b s).2).2
    have he := untilS_all (f := exprS true b 6) (Q := fun x => GExpr.fit x ∧ GExpr.ok x) (exprS_good true b 6) (wordS b (wordS b (textS b s).2).2).1.toNat ((wordS b (wordS b (textS b s).2).2).2.1, (wordS b (wordS b (textS b s).2).2).2.2 || (decide ((wordS b (textS b s).2).1 > 1) || decide ((wordS b (wordS b (textS b s).2).2).1 > 256)))
    have hl := untilS_len (f := exprS true b 6) (wordS b (wordS b (textS b s).2).2).1.toNat ((wordS b (wordS b (textS b s).2).2).2.1, (wordS b (wordS b (textS b s).2).2).2.2 || (decide ((wordS b (textS b s).2).1 > 1) || decide ((wordS b (wordS b (textS b s).2).2).1 > 256)))
    have ht := textS_in b s
    exact ⟨⟨by rw [sectS]; dsimp only; omega, fun x hx => (he x hx).1⟩, ⟨by rw [sectS]; dsimp only; omega, trivial, by rw [sectS]; dsimp only; omega, fun x hx => (he x hx).2⟩⟩) N s
  have hG := untilS_all (f := globI true b) (Q := fun x => GGlob.fit x ∧ GGlob.ok x) (fun s => by
    have he := exprS_good true b 6 (textS b s).2
    have ht := textS_in b s
    exact ⟨he.1, ⟨by rw [globI]; dsimp only; omega, he.2⟩⟩) M t
  have l1 := untilS_len (f := sectS b) N s
  have l2 := untilS_len (f := globI true b) M t
  exact ⟨⟨⟨by dsimp only; omega, fun x hx => (hS x hx).1⟩, ⟨by dsimp only; omega, fun x hx => (hG x hx).1⟩⟩, ⟨⟨by dsimp only; omega, fun x hx => (hS x hx).2⟩, ⟨by dsimp only; omega, fun x hx => (hG x hx).2⟩⟩⟩
def gO (x : Option GObj) : GObj × Bool := match x with | some o => (o, true) | none => (⟨[], []⟩, false)
theorem simO : Sim (.tup [.agg [.nils, .nils], .bool false]) (.tup [.agg (GObj.ow ⟨[], []⟩), .bool false]) :=
  .tup (.cons (.agg (.cons (.nil 3) (.cons (.nil 5) (.refl _)))) (.refl _))
theorem obj_toRo (o : GObj) : [AV.ro 3 (toRoRows (GSect.ows o.sects)), .ro 5 (toRoRows (GGlob.ows o.globs))] = GObj.ro o := by
  rw [GSect.toRo_ows _ fun x _ => GSect.toRo_ow x, GGlob.toRo_ows _ fun x _ => GGlob.toRo_ow x]; rfl
theorem ros_take (b : List UInt8) (n : Nat) : ((GByte.ros b).drop 0).take (n - 0) = GByte.ros (b.take n) := by
  rw [ros_sub]; rfl
theorem impl_GetObj (b : List UInt8) (hb : b.length ≤ 1099511627776) : Con 60 [.ro 1 (GByte.ros b)] (.tup [.agg (GObj.ow (gO (modO b)).1), .bool (gO (modO b)).2]) [none] := by
  refine con Tryz.func60 ?_
  have hlen : (GByte.ros b).length = b.length := by simp
  have hs0 : okS (0, false) := ⟨by decide, by decide⟩
  have hs1 : okS (rdF b).2 := wordS_ok hb hs0
  have hg := objI_good b (rdF b).2
  have hm := modO_impl b
  have hbad : (rdO b).2.2 = true → (rdS b).2.2 = true := fun h => (rep_word b).bad h
  have hin : (rdS b).2.2 = false → (rdS b).2.1 = b.length → 0 ≤ (rdO b).2.1 ∧ (rdO b).2.1 ≤ b.length := fun h1 h2 => by
    have e : rdS b = wordS b (rdO b).2 := rfl
    rw [wordS] at e
    split at e
    · rw [e] at h1; cases h1
    · split at e
      · rename_i n q hw
        have := getW_in hw
        omega
      · rw [e] at h1; cases h1
  have no : ¬ goodI b → Sim (.tup [.agg [.nils, .nils], .bool false]) (.tup [.agg (GObj.ow (gO (modO b)).1), .bool (gO (modO b)).2]) := fun h => by rw [hm.2 h]; exact simO
  rw [goodI] at no hm
  refine ⟨[.mut], .int .i64 (rdF b).1, [some (.pb (rdRow b (rdF b).2))], .nba rfl (reader_word b (0, false) hb), trivial, ?_⟩
  refine ⟨[.mut], .agg (GObj.ow (rdO b).1), [some (.pb (rdRow b (rdO b).2))], reader_obj b hb _ hs1, trivial, ?_⟩
  refine ⟨[.mut], .int .i64 (rdS b).1, [some (.pb (rdRow b (rdS b).2))], reader_word b _ hb, trivial, ?_⟩
  replace hg : GObj.fit (rdO b).1 ∧ GObj.ok (rdO b).1 := hg
  generalize rdS b = S at *
  generalize rdO b = O at *
  generalize rdF b = F at *
  refine ⟨fun h1 => ⟨fun h2 => ⟨fun h3 => ?_, fun h3 => ⟨no fun g => ?_, trivial⟩⟩, fun h2 => ⟨no fun g => ?_, trivial⟩⟩, fun h1 => ⟨no fun g => ?_, trivial⟩⟩
  · simp only [decide_eq_false_iff_not, Decidable.not_not, hlen] at h2 h3
    obtain ⟨b0, b1⟩ := hin h1 h2
    refine ⟨b0, by rw [hlen]; exact b1, ?_⟩
    refine ⟨[.ro], .int .i64 (sumB (b.take O.2.1.toNat)), [none], (by rw [ros_take]; exact impl_SumOf _ (by simp; omega)), trivial, ?_⟩
    refine ⟨fun h4 => ⟨fun h5 => ⟨[.ro], .bool (objE O.1), [none], (by rw [obj_toRo]; exact impl_ObjOk O.1 hg.1 hg.2), ⟨trivial, trivial⟩, fun h6 => ⟨no fun g => ?_, trivial⟩, fun h6 => ⟨?_, trivial⟩⟩, fun h5 => ⟨no fun g => ?_, trivial⟩⟩, fun h4 => ⟨no fun g => ?_, trivial⟩⟩
    · simp [g.2.2.2.2.2] at h6
    · simp only [decide_eq_false_iff_not, Decidable.not_not, hlen, Bool.not_eq_false'] at h4 h5 h6
      rw [hm.1 ⟨h1, h2, h3, h4, by omega, h6⟩]
      exact .refl _
    · have := g.2.2.2.2.1; simp only [hlen, decide_eq_true_eq] at h5; omega
    · have := g.2.2.2.1; simp [this] at h4
  · have := g.2.2.1; simp [this] at h3
  · have := g.2.1; simp [this, hlen] at h2
  · rw [g.1] at h1; cases h1
theorem modO_off {b : List UInt8} (h : ¬ (2 ≤ b.length ∧ b.length ≤ 3000)) : modO b = none := by
  rw [modO]
  split
  · rfl
  · rename_i f p h1
    have := getW_in h1
    split
    · rfl
    · split
      · rfl
      · rw [if_neg]; rintro ⟨_, _, _, h5, _⟩; omega
theorem spec_GetObj (b : List UInt8) (hb : b.length ≤ 1099511627776) : Con 61 [.ro 1 (GByte.ros b)] (.tup [.agg (GObj.ow (gO (modO b)).1), .bool (gO (modO b)).2]) [none] := by
  refine conC (fun i => Nat.beq i 7 || (Nat.beq i 14 || Nat.beq i 21)) Tryz.func61 ?_
  have hlen : (GByte.ros b).length = b.length := by simp
  have e1 : IntKind.wrap .i64 (((GByte.ros b).length : Int) - 2) = (b.length : Int) - 2 := by rw [hlen]; exact w64 (by omega) (by omega)
  have off : ¬ (2 ≤ b.length ∧ b.length ≤ 3000) → Sim (.tup [.agg [.nils, .nils], .bool false]) (.tup [.agg (GObj.ow (gO (modO b)).1), .bool (gO (modO b)).2]) := fun h => by rw [modO_off h]; exact simO
  refine ⟨fun h => ⟨fun h2 => ⟨off ?_, trivial⟩, fun h2 => ?_⟩, fun h => ⟨off ?_, trivial⟩⟩
  · simp only [hlen, decide_eq_true_eq] at h2; omega
  · simp only [e1, decide_eq_false_iff_not] at h
    simp only [hlen, decide_eq_false_iff_not] at h2
    have hn : 2 ≤ b.length := by omega
    have hl : b.length ≤ 3000 := by omega
    have hm := modO_spec b hn hl
    have no : ¬ goodS b → Sim (.tup [.agg [.nils, .nils], .bool false]) (.tup [.agg (GObj.ow (gO (modO b)).1), .bool (gO (modO b)).2]) := fun h => by rw [hm.2 h]; exact simO
    have hgood := untS_good (b.take (b.length - 2)) (min (sdK b).1.toNat 9) (min (sdM b).1.toNat 21) (sdK b).2 (sdM b).2 (by omega) (by omega)
    obtain ⟨_, _, hw⟩ := getW_some (b := b) (p := (b.length : Int) - 2) (by omega) (by omega)
    have hv : sumAt b = (b[((b.length : Int) - 2).toNat].toNat : Int) + 256 * b[((b.length : Int) - 2).toNat + 1].toNat := by rw [sumAt, hw]
    have c := spec_GetW b ((b.length : Int) - 2) hb (by omega)
    rw [hw, ← hv] at c
    have ht : ((b.length : Int) - 2).toNat = b.length - 2 := by omega
    have htl : (b.take (b.length - 2)).length ≤ 1099511627776 := by simp; omega
    refine ⟨[.ro, .ro], .tup [.int .i64 (sumAt b), .int .i64 ((b.length : Int) - 2 + 2), .bool true], [none, none], (by rw [e1]; exact c), trivial, ?_⟩
    refine ⟨by rw [e1]; omega, by rw [e1, hlen]; omega, ?_⟩
    have hs0 : okS (0, false) := ⟨by decide, by decide⟩
    have hs1 : okS (sdF b).2 := wordS_ok htl hs0
    refine ⟨[.mut], .int .i64 (sdF b).1, [some (.pb (rdRow (b.take (b.length - 2)) (sdF b).2))], (by rw [e1, ros_take, ht]; exact .nba rfl (spec_l17Num _ (0, false) htl hs0)), trivial, ?_⟩
    apply join
    · intro J
      refine ⟨fun g1 => ⟨by rw [e1]; omega, by rw [e1, hlen]; omega, [.ro], .int .i64 (sumB (b.take (b.length - 2))), [none], (by rw [e1, ros_take, ht]; exact spec_SumOf _ (by simp; omega)), trivial, ⟨Unit, fun _ => ⟨[(2, .ptr 0 0 0), (4, .int .i64 ((b.length : Int) - 2)), (8, .ptr 1 0 0)], [(0, .box [.nils, .nils] []), (1, .box (rdRow (b.take (b.length - 2)) ((sdF b).2.1, sdB b)) [])]⟩, (), ⟨rfl, rfl, congrArg (AV.int .i64) e1, rfl, rfl, .refl _, .cons (.cons (.refl _) (.cons (.refl _) (.cons (simB ?_) (.refl _)))) (.refl _), trivial⟩, J⟩⟩, fun g1 => ⟨Unit, fun _ => ⟨[(2, .ptr 0 0 0), (4, .int .i64 ((b.length : Int) - 2)), (8, .ptr 1 0 0)], [(0, .box [.nils, .nils] []), (1, .box (rdRow (b.take (b.length - 2)) ((sdF b).2.1, sdB b)) [])]⟩, (), ⟨rfl, rfl, congrArg (AV.int .i64) e1, rfl, rfl, .refl _, .cons (.cons (.refl _) (.cons (.refl _) (.cons (simBT ?_) (.refl _)))) (.refl _), trivial⟩, J⟩⟩
      · rw [sdB, g1]; rfl
      · rw [sdB, g1]; rfl
    · rintro ⟨⟩
      have hs2 : okS ((sdF b).2.1, sdB b) := hs1
      have hs3 : okS (sdK b).2 := wordS_ok htl hs2
      have hk := wordS_in (b.take (b.length - 2)) ((sdF b).2.1, sdB b)
      refine ⟨[.mut], .int .i64 (sdK b).1, [some (.pb (rdRow (b.take (b.length - 2)) (sdK b).2))], spec_l17Num _ _ htl hs2, trivial, ?_⟩
      change 0 ≤ (sdK b).1 ∧ (sdK b).1 ≤ 65535 at hk
      refine ⟨{ q : Nat × List GSect × RS // q.1 ≤ min (sdK b).1.toNat 9 ∧ URun (sectS (b.take (b.length - 2))) (min (sdK b).1.toNat 9) (sdK b).2 q.1 q.2.1 q.2.2 ∧ q.2.1.length = q.1 ∧ okS q.2.2 }, fun q => ⟨[(2, .ptr 0 0 0), (4, .int .i64 ((b.length : Int) - 2)), (8, .ptr 1 0 0), (9, .ptr 2 0 0), (10, .int .i64 (sdK b).1), (11, .int .i64 q.1.1)], [(0, .box [.nils, .nils] []), (1, .box (rdRow (b.take (b.length - 2)) q.1.2.2) []), (2, .box [.ow 3 (GSect.ows q.1.2.1), .nils] [])]⟩, fun q => min (sdK b).1.toNat 9 - q.1.1, ⟨(0, [], (sdK b).2), Nat.zero_le _, URun.start _ _ _, rfl, hs3⟩, ?_, ?_⟩
      · exact ⟨rfl, rfl, rfl, rfl, rfl, rfl, rfl, rfl, rfl, .refl _, .refl _, .cons (.cons (.nil 3) (.refl _)) (.refl _), trivial⟩
      · apply join
        · intro J
          rintro ⟨⟨i, l, st⟩, hi, hp, hl2, hst⟩
          dsimp only at hi hp hl2 hst ⊢
          have ex : (min (sdK b).1.toNat 9 ≤ i ∨ st.2 = true) → sdSs b = (l, st) := fun h => hp.stop h
          refine ⟨fun g1 => ⟨fun g2 => ⟨fun g3 => ?_, fun g3 => ⟨Unit, fun _ => ⟨[(2, .ptr 0 0 0), (4, .int .i64 ((b.length : Int) - 2)), (8, .ptr 1 0 0), (9, .ptr 2 0 0), (10, .int .i64 (sdK b).1)], [(0, .box [.nils, .nils] []), (1, .box (rdRow (b.take (b.length - 2)) (sdSs b).2) []), (2, .box [.ow 3 (GSect.ows (sdSs b).1), .nils] [])]⟩, (), ⟨rfl, rfl, rfl, rfl, rfl, rfl, rfl, rfl, .refl _, .of_eq ?_, .of_eq ?_, trivial⟩, J⟩⟩, fun g2 => ⟨Unit, fun _ => ⟨[(2, .ptr 0 0 0), (4, .int .i64 ((b.length : Int) - 2)), (8, .ptr 1 0 0), (9, .ptr 2 0 0), (10, .int .i64 (sdK b).1)], [(0, .box [.nils, .nils] []), (1, .box (rdRow (b.take (b.length - 2)) (sdSs b).2) []), (2, .box [.ow 3 (GSect.ows (sdSs b).1), .nils] [])]⟩, (), ⟨rfl, rfl, rfl, rfl, rfl, rfl, rfl, rfl, .refl _, .of_eq ?_, .of_eq ?_, trivial⟩, J⟩⟩, fun g1 => ⟨Unit, fun _ => ⟨[(2, .ptr 0 0 0), (4, .int .i64 ((b.length : Int) - 2)), (8, .ptr 1 0 0), (9, .ptr 2 0 0), (10, .int .i64 (sdK b).1)], [(0, .box [.nils, .nils] []), (1, .box (rdRow (b.take (b.length - 2)) (sdSs b).2) []), (2, .box [.ow 3 (GSect.ows (sdSs b).1), .nils] [])]⟩, (), ⟨rfl, rfl, rfl, rfl, rfl, rfl, rfl, rfl, .refl _, .of_eq ?_, .of_eq ?_, trivial⟩, J⟩⟩
          · simp only [decide_eq_true_eq, Bool.not_eq_true'] at g1 g2 g3
            have hi : i < min (sdK b).1.toNat 9 := by omega
            refine ⟨[.mut], .agg (GSect.ow (sectS (b.take (b.length - 2)) st).1), [some (.pb (rdRow (b.take (b.length - 2)) (sectS (b.take (b.length - 2)) st).2))], spec_l17Sect _ htl st hst, trivial, ?_⟩
            refine ⟨trivial, ?_, ⟨⟨trivial, trivial, trivial, trivial⟩, trivial⟩, ?_⟩
            · show ((GSect.ows l).length + 1) * 48 ≤ _
              rw [sects_len]; omega
            refine ⟨⟨(i + 1, l ++ [(sectS (b.take (b.length - 2)) st).1], (sectS (b.take (b.length - 2)) st).2), by omega, hp.step hi g3, by rw [List.length_append, hl2]; rfl, sectS_ok htl hst⟩, by dsimp only; omega, rfl, rfl, rfl, rfl, rfl, rfl, rfl, rfl, congrArg (AV.int .i64) (w64 (by omega) (by omega)), .refl _, .refl _, .of_eq ?_, trivial⟩
            exact congrArg (fun z => [[AV.ow 3 z, .nils]]) (sect_snoc l _ _ _)
          all_goals simp only [decide_eq_true_eq, decide_eq_false_iff_not, Bool.not_eq_false'] at *
          · rw [ex (.inr g3)]
          · rw [ex (.inr g3)]
          · rw [ex (.inl (by omega))]
          · rw [ex (.inl (by omega))]
          · rw [ex (.inl (by omega))]
          · rw [ex (.inl (by omega))]
        · rintro ⟨⟩
          have hS4 : okS (sdSs b).2 := untilS_ok (fun s h => sectS_ok htl h) _ _ hs3
          have hM4 : okS (sdM b).2 := wordS_ok htl hS4
          have hmm := wordS_in (b.take (b.length - 2)) (sdSs b).2
          refine ⟨[.mut], .int .i64 (sdM b).1, [some (.pb (rdRow (b.take (b.length - 2)) (sdM b).2))], spec_l17Num _ _ htl hS4, trivial, ?_⟩
          change 0 ≤ (sdM b).1 ∧ (sdM b).1 ≤ 65535 at hmm
          refine ⟨{ q : Nat × List GGlob × RS // q.1 ≤ min (sdM b).1.toNat 21 ∧ URun (globI true (b.take (b.length - 2))) (min (sdM b).1.toNat 21) (sdM b).2 q.1 q.2.1 q.2.2 ∧ q.2.1.length = q.1 ∧ okS q.2.2 }, fun q => ⟨[(2, .ptr 0 0 0), (4, .int .i64 ((b.length : Int) - 2)), (8, .ptr 1 0 0), (9, .ptr 2 0 0), (10, .int .i64 (sdK b).1), (13, .int .i64 (sdM b).1), (14, .int .i64 q.1.1)], [(0, .box [.nils, .nils] []), (1, .box (rdRow (b.take (b.length - 2)) q.1.2.2) []), (2, .box [.ow 3 (GSect.ows (sdSs b).1), .ow 5 (GGlob.ows q.1.2.1)] [])]⟩, fun q => min (sdM b).1.toNat 21 - q.1.1, ⟨(0, [], (sdM b).2), Nat.zero_le _, URun.start _ _ _, rfl, hM4⟩, ?_, ?_⟩
          · exact ⟨rfl, rfl, rfl, rfl, rfl, rfl, rfl, rfl, rfl, rfl, .refl _, .refl _, .cons (.cons (.refl _) (.cons (.nil 5) (.refl _))) (.refl _), trivial⟩
          · apply join
            · intro J
              rintro ⟨⟨i, l, st⟩, hi, hp, hl2, hst⟩
              dsimp only at hi hp hl2 hst ⊢
              have ex : (min (sdM b).1.toNat 21 ≤ i ∨ st.2 = true) → sdGs b = (l, st) := fun h => hp.stop h
              refine ⟨fun g1 => ⟨fun g2 => ⟨fun g3 => ?_, fun g3 => ⟨Unit, fun _ => ⟨[(2, .ptr 0 0 0), (4, .int .i64 ((b.length : Int) - 2)), (8, .ptr 1 0 0), (9, .ptr 2 0 0), (10, .int .i64 (sdK b).1), (13, .int .i64 (sdM b).1)], [(0, .box [.nils, .nils] []), (1, .box (rdRow (b.take (b.length - 2)) (sdGs b).2) []), (2, .box [.ow 3 (GSect.ows (sdSs b).1), .ow 5 (GGlob.ows (sdGs b).1)] [])]⟩, (), ⟨rfl, rfl, rfl, rfl, rfl, rfl, rfl, rfl, rfl, .refl _, .of_eq ?_, .of_eq ?_, trivial⟩, J⟩⟩, fun g2 => ⟨Unit, fun _ => ⟨[(2, .ptr 0 0 0), (4, .int .i64 ((b.length : Int) - 2)), (8, .ptr 1 0 0), (9, .ptr 2 0 0), (10, .int .i64 (sdK b).1), (13, .int .i64 (sdM b).1)], [(0, .box [.nils, .nils] []), (1, .box (rdRow (b.take (b.length - 2)) (sdGs b).2) []), (2, .box [.ow 3 (GSect.ows (sdSs b).1), .ow 5 (GGlob.ows (sdGs b).1)] [])]⟩, (), ⟨rfl, rfl, rfl, rfl, rfl, rfl, rfl, rfl, rfl, .refl _, .of_eq ?_, .of_eq ?_, trivial⟩, J⟩⟩, fun g1 => ⟨Unit, fun _ => ⟨[(2, .ptr 0 0 0), (4, .int .i64 ((b.length : Int) - 2)), (8, .ptr 1 0 0), (9, .ptr 2 0 0), (10, .int .i64 (sdK b).1), (13, .int .i64 (sdM b).1)], [(0, .box [.nils, .nils] []), (1, .box (rdRow (b.take (b.length - 2)) (sdGs b).2) []), (2, .box [.ow 3 (GSect.ows (sdSs b).1), .ow 5 (GGlob.ows (sdGs b).1)] [])]⟩, (), ⟨rfl, rfl, rfl, rfl, rfl, rfl, rfl, rfl, rfl, .refl _, .of_eq ?_, .of_eq ?_, trivial⟩, J⟩⟩
              · simp only [decide_eq_true_eq, Bool.not_eq_true'] at g1 g2 g3
                have hi : i < min (sdM b).1.toNat 21 := by omega
                refine ⟨[.mut], .str (textS (b.take (b.length - 2)) st).1, [some (.pb (rdRow (b.take (b.length - 2)) (textS (b.take (b.length - 2)) st).2))], spec_l17Text _ st htl hst, trivial, ?_⟩
                have hs5 : okS (textS (b.take (b.length - 2)) st).2 := textS_ok htl hst
                refine ⟨[.mut, .ro], .agg (GExpr.ow (exprS true (b.take (b.length - 2)) 6 (textS (b.take (b.length - 2)) st).2).1), [some (.pb (rdRow (b.take (b.length - 2)) (exprS true (b.take (b.length - 2)) 6 (textS (b.take (b.length - 2)) st).2).2)), none], spec_l17Expr _ htl 6 _ (by decide) hs5, trivial, ?_⟩
                refine ⟨trivial, ?_, ⟨⟨trivial, trivial, trivial, trivial, trivial, trivial⟩, trivial⟩, ?_⟩
                · show ((GGlob.ows l).length + 1) * 72 ≤ _
                  rw [globs_len]; omega
                refine ⟨⟨(i + 1, l ++ [(globI true (b.take (b.length - 2)) st).1], (globI true (b.take (b.length - 2)) st).2), by omega, hp.step hi g3, by rw [List.length_append, hl2]; rfl, globI_ok htl hst⟩, by dsimp only; omega, rfl, rfl, rfl, rfl, rfl, rfl, rfl, rfl, rfl, congrArg (AV.int .i64) (w64 (by omega) (by omega)), .refl _, .refl _, .of_eq ?_, trivial⟩
                exact congrArg (fun z => [[AV.ow 3 (GSect.ows (sdSs b).1), .ow 5 z]]) (glob_snoc l _ _)
              all_goals simp only [decide_eq_true_eq, decide_eq_false_iff_not, Bool.not_eq_false'] at *
              · rw [ex (.inr g3)]
              · rw [ex (.inr g3)]
              · rw [ex (.inl (by omega))]
              · rw [ex (.inl (by omega))]
              · rw [ex (.inl (by omega))]
              · rw [ex (.inl (by omega))]
            · rintro ⟨⟩
              change GObj.fit ⟨(sdSs b).1, (sdGs b).1⟩ ∧ GObj.ok ⟨(sdSs b).1, (sdGs b).1⟩ at hgood
              have l3 := sects_len (sdSs b).1
              have l4 := globs_len (sdGs b).1
              rw [goodS] at no hm
              refine ⟨fun h1 => ⟨fun h2 => ⟨fun h3 => ⟨fun h4 => ⟨[.ro], .bool (objE ⟨(sdSs b).1, (sdGs b).1⟩), [none], (by rw [obj_toRo ⟨(sdSs b).1, (sdGs b).1⟩]; exact spec_ObjOk _ hgood.1 hgood.2), ⟨trivial, trivial⟩, fun h6 => ⟨no fun g => ?_, trivial⟩, fun h6 => ⟨?_, trivial⟩⟩, fun h4 => ⟨no fun g => ?_, trivial⟩⟩, fun h3 => ⟨no fun g => ?_, trivial⟩⟩, fun h2 => ⟨no fun g => ?_, trivial⟩⟩, fun h1 => ⟨no fun g => ?_, trivial⟩⟩
              · rw [g.2.2.2.2] at h6; cases h6
              · simp only [decide_eq_false_iff_not, Decidable.not_not, l3, l4, Bool.not_eq_false'] at h2 h3 h4 h6
                rw [hm.1 ⟨h1, h2, h3, h4, h6⟩]
                exact .refl _
              · have := g.2.2.2.1; simp [this] at h4
              · have := g.2.2.1; simp [this] at h3
              · have := g.2.1; simp [this] at h2
              · rw [g.1] at h1; cases h1
  · simp only [e1, decide_eq_true_eq] at h; omega
end Go.Proofs.VI
