/- Contracts of functions, and what they rest on: l17rdo. -/
import Derived.Test.YtjlonhiojgljcaaGreatG1
set_option linter.unusedVariables false
set_option linter.unusedSimpArgs false
set_option maxRecDepth 10000
set_option maxHeartbeats 4000000
namespace Go.Proofs.VI
open Go
theorem countS_in (b : List UInt8) (m : Int) (s : RS) (hm : 0 ≤ m) : 0 ≤ (countS b m s).1 ∧ (countS b m s).1 ≤ m := by
  have := wordS_in b s
  rw [countS]; split
  · exact ⟨by simp, hm⟩
  · omega
theorem countS_ok {b : List UInt8} {m : Int} {s : RS} (hb : b.length ≤ 1099511627776) (h : okS s) : okS (countS b m s).2 := by
  have := wordS_ok hb h
  rw [countS]; split
  · exact this
  · exact this
theorem sectI_ok {b : List UInt8} {s : RS} (hb : b.length ≤ 1099511627776) (h : okS s) : okS (sectI b s).2 :=
  manyS_ok (fun s h => exprS_ok hb 6 s h) _ _ (countS_ok hb (countS_ok hb (textS_ok hb h)))
theorem globI_ok {v : Bool} {b : List UInt8} {s : RS} (hb : b.length ≤ 1099511627776) (h : okS s) : okS (globI v b s).2 := exprS_ok hb 6 _ (textS_ok hb h)
theorem sect_snoc (l : List GSect) (nm : ByteArray) (ov : Bool) (ws : List GExpr) : (GSect.ows l ++ [[AV.str nm, .bool ov, .nilp]]).modify ((GSect.ows l).length + 0) (fun row => row.set 2 (.ow 4 (GExpr.ows ws))) = GSect.ows (l ++ [⟨nm, ov, ws⟩]) := by
  rw [modify_end]; simp [GSect.ow]
theorem glob_snoc (l : List GGlob) (nm : ByteArray) (e : GExpr) : (GGlob.ows l ++ [[AV.str nm, .int .i64 e.k, .int .i64 e.n, .str e.s, .nilp]]).modify ((GGlob.ows l).length + 0) (fun row => row.set 4 (.ow 4 (GExpr.ows e.l))) = GGlob.ows (l ++ [⟨nm, e⟩]) := by
  rw [modify_end]; simp [GGlob.ow]
theorem sects_len (l : List GSect) : (GSect.ows l).length = l.length := by simp
theorem globs_len (l : List GGlob) : (GGlob.ows l).length = l.length := by simp
theorem reader_count (b : List UInt8) (m : Int) (s : RS) (hb : b.length ≤ 1099511627776) : Con 190 [.pb (rdRow b s), .int .i64 m] (.int .i64 (countS b m s).1) [some (.pb (rdRow b (countS b m s).2)), none] := by
  refine con Tryz.func190 ?_
  refine ⟨[.mut], .int .i64 (wordS b s).1, [some (.pb (rdRow b (wordS b s).2))], reader_word b s hb, trivial, ?_⟩
  refine ⟨fun h => ?_, fun h => ?_⟩ <;> simp only [decide_eq_true_eq, decide_eq_false_iff_not] at h
  · refine ⟨.of_eq (congrArg (AV.int .i64) ?_), .nb ?_, trivial⟩
    · rw [countS, if_pos h]
    · rw [countS, if_pos h]; rfl
  · refine ⟨.of_eq (congrArg (AV.int .i64) ?_), .of_eq (congrArg AV.pb ?_), trivial⟩
    · rw [countS, if_neg h]
    · rw [countS, if_neg h]; rfl
theorem reader_obj (b : List UInt8) (hb : b.length ≤ 1099511627776) (s : RS) (hs : okS s) : Con 130 [.pb (rdRow b s)] (.agg (GObj.ow (objI b s).1)) [some (.pb (rdRow b (objI b s).2))] := by
  refine con Tryz.func130 ?_
  refine ⟨[.mut, .ro], .int .i64 (countS b 8 s).1, [some (.pb (rdRow b (countS b 8 s).2)), none], reader_count b 8 s hb, trivial, ?_⟩
  have hk := countS_in b 8 s (by decide)
  have hs1 : okS (countS b 8 s).2 := countS_ok hb hs
  generalize hO : objI b s = O
  rw [objI] at hO
  generalize countS b 8 s = K at hk hs1 hO
  refine ⟨{ q : Nat × List GSect × RS // q.1 ≤ K.1.toNat ∧ manyS (sectI b) q.1 K.2 = q.2 ∧ q.2.1.length = q.1 ∧ okS q.2.2 }, fun q => ⟨[(0, .ptr 0 0 0), (2, .ptr 1 0 0), (3, .ptr 2 0 0), (14, .int .i64 K.1), (15, .int .i64 q.1.1)], [(0, .box (rdRow b q.1.2.2) []), (1, .box [.nils, .nils] []), (2, .box [.ow 3 (GSect.ows q.1.2.1), .nils] [])]⟩, fun q => K.1.toNat - q.1.1, ⟨(0, [], K.2), Nat.zero_le _, rfl, rfl, hs1⟩, ?_, ?_⟩
  · exact ⟨rfl, rfl, rfl, rfl, rfl, rfl, rfl, rfl, .refl _, .refl _, .cons (.cons (.nil 3) (.refl _)) (.refl _), trivial⟩
  · rintro ⟨⟨i, l, st⟩, hi, hp, hl, hst⟩
    dsimp only at hi hp hl hst ⊢
    refine ⟨fun h => ?_, fun h => ?_⟩ <;> simp only [decide_eq_true_eq, decide_eq_false_iff_not] at h
    · have hi : i < K.1.toNat := by omega
      refine ⟨[.mut], .str (textS b st).1, [some (.pb (rdRow b (textS b st).2))], reader_text b st hb, trivial, ?_⟩
      have hs2 : okS (textS b st).2 := textS_ok hb hst
      refine ⟨[.mut, .ro], .int .i64 (countS b 1 (textS b st).2).1, [some (.pb (rdRow b (countS b 1 (textS b st).2).2)), none], reader_count b 1 _ hb, trivial, ?_⟩
      refine ⟨[.mut, .ro], .int .i64 (countS b 256 (countS b 1 (textS b st).2).2).1, [some (.pb (rdRow b (countS b 256 (countS b 1 (textS b st).2).2).2)), none], reader_count b 256 _ hb, trivial, ?_⟩
      have hn := countS_in b 256 (countS b 1 (textS b st).2).2 (by decide)
      have hs3 : okS (countS b 256 (countS b 1 (textS b st).2).2).2 := countS_ok hb (countS_ok hb hs2)
      have hX : sectI b st = (⟨(textS b st).1, decide ((countS b 1 (textS b st).2).1 = 1), (manyS (exprS false b 6) (countS b 256 (countS b 1 (textS b st).2).2).1.toNat (countS b 256 (countS b 1 (textS b st).2).2).2).1⟩, (manyS (exprS false b 6) (countS b 256 (countS b 1 (textS b st).2).2).1.toNat (countS b 256 (countS b 1 (textS b st).2).2).2).2) := rfl
      generalize hnm : (textS b st).1 = nm at hX ⊢
      generalize hov : decide ((countS b 1 (textS b st).2).1 = 1) = ov at hX ⊢
      generalize countS b 256 (countS b 1 (textS b st).2).2 = N at hn hs3 hX ⊢
      refine ⟨{ q : Nat × List GExpr × RS // q.1 ≤ N.1.toNat ∧ manyS (exprS false b 6) q.1 N.2 = q.2 ∧ q.2.1.length = q.1 ∧ okS q.2.2 }, fun q => ⟨[(0, .ptr 0 0 0), (2, .ptr 1 0 0), (3, .ptr 2 0 0), (14, .int .i64 K.1), (15, .int .i64 i), (5, .ptr 3 0 0), (28, .int .i64 N.1), (29, .int .i64 q.1.1)], [(0, .box (rdRow b q.1.2.2) []), (1, .box [.nils, .nils] []), (2, .box [.ow 3 (GSect.ows l), .nils] []), (3, .box [.str nm, .bool ov, .ow 4 (GExpr.ows q.1.2.1)] [])]⟩, fun q => N.1.toNat - q.1.1, ⟨(0, [], N.2), Nat.zero_le _, rfl, rfl, hs3⟩, ?_, ?_⟩
      · exact ⟨rfl, rfl, rfl, rfl, rfl, rfl, rfl, rfl, rfl, rfl, rfl, rfl, .refl _, .refl _, .refl _, .cons (.cons (.refl _) (.cons (.refl _) (.cons (.nil 4) (.refl _)))) (.refl _), trivial⟩
      · rintro ⟨⟨j, ws, st2⟩, hj, hp2, hl2, hst2⟩
        dsimp only at hj hp2 hl2 hst2 ⊢
        refine ⟨fun h => ?_, fun h => ?_⟩ <;> simp only [decide_eq_true_eq, decide_eq_false_iff_not] at h
        · have hj : j < N.1.toNat := by omega
          refine ⟨[.mut, .ro], .agg (GExpr.ow (exprS false b 6 st2).1), [some (.pb (rdRow b (exprS false b 6 st2).2)), none], reader_expr b hb 6 st2 (by decide) hst2, trivial, ?_⟩
          refine ⟨trivial, ?_, ⟨⟨trivial, trivial, trivial, trivial, trivial⟩, trivial⟩, ?_⟩
          · show ((GExpr.ows ws).length + 1) * 56 ≤ _
            rw [ows_len]; omega
          refine ⟨⟨(j + 1, ws ++ [(exprS false b 6 st2).1], (exprS false b 6 st2).2), by omega, by rw [manyS, hp2], by rw [List.length_append, hl2]; rfl, exprS_ok hb 6 st2 hst2⟩, by dsimp only; omega, rfl, rfl, rfl, rfl, rfl, rfl, rfl, rfl, rfl, rfl, rfl, congrArg (AV.int .i64) (w64 (by omega) (by omega)), .refl _, .refl _, .refl _, .of_eq ?_, trivial⟩
          exact congrArg (fun z => [[AV.str nm, .bool ov, .ow 4 z]]) (snoc_row ws (exprS false b 6 st2).1)
        · have : j = N.1.toNat := by omega
          subst this
          rw [hp2] at hX
          refine ⟨trivial, ?_, ⟨⟨trivial, trivial, trivial, trivial⟩, trivial⟩, ?_⟩
          · show ((GSect.ows l).length + 1) * 48 ≤ _
            rw [sects_len]; omega
          refine ⟨⟨(i + 1, l ++ [(sectI b st).1], (sectI b st).2), by omega, by rw [manyS, hp], by rw [List.length_append, hl]; rfl, sectI_ok hb hst⟩, by dsimp only; omega, rfl, rfl, rfl, rfl, rfl, rfl, rfl, congrArg (AV.int .i64) (w64 (by omega) (by omega)), ?_, .refl _, .of_eq ?_, trivial⟩
          · dsimp only; rw [hX]; exact .refl _
          · dsimp only; rw [hX]
            exact congrArg (fun z => [[AV.ow 3 z, .nils]]) (sect_snoc l nm ov ws)
    · have : i = K.1.toNat := by omega
      subst this
      rw [hp] at hO
      refine ⟨[.mut, .ro], .int .i64 (countS b 20 st).1, [some (.pb (rdRow b (countS b 20 st).2)), none], reader_count b 20 st hb, trivial, ?_⟩
      have hm := countS_in b 20 st (by decide)
      have hs4 : okS (countS b 20 st).2 := countS_ok hb hst
      generalize countS b 20 st = M at hm hs4 hO ⊢
      refine ⟨{ q : Nat × List GGlob × RS // q.1 ≤ M.1.toNat ∧ manyS (globI false b) q.1 M.2 = q.2 ∧ q.2.1.length = q.1 ∧ okS q.2.2 }, fun q => ⟨[(0, .ptr 0 0 0), (2, .ptr 1 0 0), (3, .ptr 2 0 0), (49, .int .i64 M.1), (50, .int .i64 q.1.1)], [(0, .box (rdRow b q.1.2.2) []), (1, .box [.nils, .nils] []), (2, .box [.ow 3 (GSect.ows l), .ow 5 (GGlob.ows q.1.2.1)] [])]⟩, fun q => M.1.toNat - q.1.1, ⟨(0, [], M.2), Nat.zero_le _, rfl, rfl, hs4⟩, ?_, ?_⟩
      · exact ⟨rfl, rfl, rfl, rfl, rfl, rfl, rfl, rfl, .refl _, .refl _, .cons (.cons (.refl _) (.cons (.nil 5) (.refl _))) (.refl _), trivial⟩
      · rintro ⟨⟨j, gs, st2⟩, hj, hp2, hl2, hst2⟩
        dsimp only at hj hp2 hl2 hst2 ⊢
        refine ⟨fun h => ?_, fun h => ?_⟩ <;> simp only [decide_eq_true_eq, decide_eq_false_iff_not] at h
        · have hj : j < M.1.toNat := by omega
          refine ⟨[.mut], .str (textS b st2).1, [some (.pb (rdRow b (textS b st2).2))], reader_text b st2 hb, trivial, ?_⟩
          have hs5 : okS (textS b st2).2 := textS_ok hb hst2
          refine ⟨[.mut, .ro], .agg (GExpr.ow (exprS false b 6 (textS b st2).2).1), [some (.pb (rdRow b (exprS false b 6 (textS b st2).2).2)), none], reader_expr b hb 6 _ (by decide) hs5, trivial, ?_⟩
          refine ⟨trivial, ?_, ⟨⟨trivial, trivial, trivial, trivial, trivial, trivial⟩, trivial⟩, ?_⟩
          · show ((GGlob.ows gs).length + 1) * 72 ≤ _
            rw [globs_len]; omega
          refine ⟨⟨(j + 1, gs ++ [(globI false b st2).1], (globI false b st2).2), by omega, by rw [manyS, hp2], by rw [List.length_append, hl2]; rfl, globI_ok hb hst2⟩, by dsimp only; omega, rfl, rfl, rfl, rfl, rfl, rfl, rfl, congrArg (AV.int .i64) (w64 (by omega) (by omega)), .refl _, .refl _, .of_eq ?_, trivial⟩
          exact congrArg (fun z => [[AV.ow 3 (GSect.ows l), .ow 5 z]]) (glob_snoc gs (textS b st2).1 (exprS false b 6 (textS b st2).2).1)
        · have : j = M.1.toNat := by omega
          subst this
          rw [hp2] at hO
          subst hO
          exact ⟨.refl _, .refl _, trivial⟩
theorem simB {v w : Bool} (h : v = w) : Sim (.bool v) (.bool w) := h ▸ .refl _
theorem simBT {w : Bool} (h : w = true) : Sim .tt (.bool w) := h ▸ .tt
def URun {α : Type} (f : RS → α × RS) (N : Nat) (s0 : RS) (i : Nat) (l : List α) (s : RS) : Prop := untilS f N s0 = (l ++ (untilS f (N - i) s).1, (untilS f (N - i) s).2)
theorem URun.start {α : Type} (f : RS → α × RS) (N : Nat) (s0 : RS) : URun f N s0 0 [] s0 := rfl
theorem URun.step {α : Type} {f : RS → α × RS} {N : Nat} {s0 : RS} {i : Nat} {l : List α} {s : RS} (h : URun f N s0 i l s) (hi : i < N) (hs : s.2 = false) : URun f N s0 (i + 1) (l ++ [(f s).1]) (f s).2 := by
  rw [URun, h, show N - i = (N - (i + 1)) + 1 by omega, untilS, if_neg (by rw [hs]; simp), List.append_assoc]; rfl
theorem untilS_stop {α : Type} {f : RS → α × RS} {n : Nat} {s : RS} (h : n = 0 ∨ s.2 = true) : untilS f n s = ([], s) := by
  cases n with
  | zero => rfl
  | succ n =>
    rcases h with h | h
    · omega
    · rw [untilS, if_pos h]
theorem URun.stop {α : Type} {f : RS → α × RS} {N : Nat} {s0 : RS} {i : Nat} {l : List α} {s : RS} (h : URun f N s0 i l s) (hs : N ≤ i ∨ s.2 = true) : untilS f N s0 = (l, s) := by
  rw [h, untilS_stop (hs.imp (fun h => by omega) id)]; simp
theorem sectS_ok {b : List UInt8} {s : RS} (hb : b.length ≤ 1099511627776) (h : okS s) : okS (sectS b s).2 :=
  untilS_ok (fun s h => exprS_ok hb 6 s h) _ _ (wordS_ok hb (wordS_ok hb (textS_ok hb h)))
theorem spec_l17Sect (b : List UInt8) (hb : b.length ≤ 1099511627776) (s : RS) (hs : okS s) : Con 133 [.pb (rdRow b s)] (.agg (GSect.ow (sectS b s).1)) [some (.pb (rdRow b (sectS b s).2))] := by
  refine conC (fun i => Nat.beq i 6) Tryz.func133 ?_
  have hs1 : okS (textS b s).2 := textS_ok hb hs
  have hs2 : okS (wordS b (textS b s).2).2 := wordS_ok hb hs1
  have hs3 : okS (wordS b (wordS b (textS b s).2).2).2 := wordS_ok hb hs2
  have hk := wordS_in b (wordS b (textS b s).2).2
  refine ⟨[.mut], .str (textS b s).1, [some (.pb (rdRow b (textS b s).2))], spec_l17Text b s hb hs, trivial, ?_⟩
  refine ⟨[.mut], .int .i64 (wordS b (textS b s).2).1, [some (.pb (rdRow b (wordS b (textS b s).2).2))], spec_l17Num b _ hb hs1, trivial, ?_⟩
  refine ⟨[.mut], .int .i64 (wordS b (wordS b (textS b s).2).2).1, [some (.pb (rdRow b (wordS b (wordS b (textS b s).2).2).2))], spec_l17Num b _ hb hs2, trivial, ?_⟩
  generalize hS : sectS b s = S
  rw [sectS] at hS
  try dsimp only at hS
  generalize (textS b s).1 = nm at hS ⊢
  generalize wordS b (textS b s).2 = O at hS hk hs3 ⊢
  generalize wordS b O.2 = K at hS hk hs3 ⊢
  generalize hB : (K.2.2 || (decide (O.1 > 1) || decide (K.1 > 256))) = B at hS
  apply join
  · intro J
    refine ⟨fun h1 => ⟨fun h2 => ⟨Unit, fun _ => ⟨[(0, .ptr 0 0 0), (2, .ptr 1 0 0), (3, .ptr 2 0 0), (5, .int .i64 K.1)], [(0, .box (rdRow b (K.2.1, B)) []), (1, .box [.str ⟨#[]⟩, .ff, .nils] []), (2, .box [.str nm, .bool (decide (O.1 = 1)), .nils] [])]⟩, (), ⟨rfl, rfl, rfl, rfl, rfl, rfl, rfl, .cons (.cons (.refl _) (.cons (.refl _) (.cons (simB ?_) (.refl _)))) (.refl _), .refl _, .refl _, trivial⟩, J⟩, fun h2 => ⟨Unit, fun _ => ⟨[(0, .ptr 0 0 0), (2, .ptr 1 0 0), (3, .ptr 2 0 0), (5, .int .i64 K.1)], [(0, .box (rdRow b (K.2.1, B)) []), (1, .box [.str ⟨#[]⟩, .ff, .nils] []), (2, .box [.str nm, .bool (decide (O.1 = 1)), .nils] [])]⟩, (), ⟨rfl, rfl, rfl, rfl, rfl, rfl, rfl, .cons (.cons (.refl _) (.cons (.refl _) (.cons (simBT ?_) (.refl _)))) (.refl _), .refl _, .refl _, trivial⟩, J⟩⟩, fun h1 => ⟨Unit, fun _ => ⟨[(0, .ptr 0 0 0), (2, .ptr 1 0 0), (3, .ptr 2 0 0), (5, .int .i64 K.1)], [(0, .box (rdRow b (K.2.1, B)) []), (1, .box [.str ⟨#[]⟩, .ff, .nils] []), (2, .box [.str nm, .bool (decide (O.1 = 1)), .nils] [])]⟩, (), ⟨rfl, rfl, rfl, rfl, rfl, rfl, rfl, .cons (.cons (.refl _) (.cons (.refl _) (.cons (simBT ?_) (.refl _)))) (.refl _), .refl _, .refl _, trivial⟩, J⟩⟩
    · rw [← hB, h1, h2]; rfl
    · rw [← hB, h1, h2]; rfl
    · rw [← hB, h1]; rfl
  · rintro ⟨⟩
    refine ⟨{ q : Nat × List GExpr × RS // q.1 ≤ K.1.toNat ∧ URun (exprS true b 6) K.1.toNat (K.2.1, B) q.1 q.2.1 q.2.2 ∧ q.2.1.length = q.1 ∧ okS q.2.2 }, fun q => ⟨[(0, .ptr 0 0 0), (2, .ptr 1 0 0), (3, .ptr 2 0 0), (5, .int .i64 K.1), (6, .int .i64 q.1.1)], [(0, .box (rdRow b q.1.2.2) []), (1, .box [.str ⟨#[]⟩, .ff, .nils] []), (2, .box [.str nm, .bool (decide (O.1 = 1)), .ow 4 (GExpr.ows q.1.2.1)] [])]⟩, fun q => K.1.toNat - q.1.1, ⟨(0, [], (K.2.1, B)), Nat.zero_le _, URun.start _ _ _, rfl, hs3⟩, ?_, ?_⟩
    · exact ⟨rfl, rfl, rfl, rfl, rfl, rfl, rfl, rfl, .refl _, .refl _, .cons (.cons (.refl _) (.cons (.refl _) (.cons (.nil 4) (.refl _)))) (.refl _), trivial⟩
    · rintro ⟨⟨j, ws, st⟩, hj, hp, hl, hst⟩
      dsimp only at hj hp hl hst ⊢
      refine ⟨fun h => ⟨fun h2 => ?_, fun h2 => ?_⟩, fun h => ?_⟩ <;> simp only [decide_eq_true_eq, decide_eq_false_iff_not, Bool.not_eq_true', Bool.not_eq_false'] at *
      · have hj : j < K.1.toNat := by omega
        refine ⟨[.mut, .ro], .agg (GExpr.ow (exprS true b 6 st).1), [some (.pb (rdRow b (exprS true b 6 st).2)), none], spec_l17Expr b hb 6 st (by decide) hst, trivial, ?_⟩
        refine ⟨trivial, ?_, ⟨⟨trivial, trivial, trivial, trivial, trivial⟩, trivial⟩, ?_⟩
        · show ((GExpr.ows ws).length + 1) * 56 ≤ _
          rw [ows_len]; omega
        refine ⟨⟨(j + 1, ws ++ [(exprS true b 6 st).1], (exprS true b 6 st).2), by omega, hp.step hj h2, by rw [List.length_append, hl]; rfl, exprS_ok hb 6 st hst⟩, by dsimp only; omega, rfl, rfl, rfl, rfl, rfl, rfl, rfl, congrArg (AV.int .i64) (w64 (by omega) (by omega)), .refl _, .refl _, .of_eq ?_, trivial⟩
        exact congrArg (fun z => [[AV.str nm, .bool (decide (O.1 = 1)), .ow 4 z]]) (snoc_row ws (exprS true b 6 st).1)
      · rw [hp.stop (.inr h2)] at hS
        subst hS
        exact ⟨.refl _, .refl _, trivial⟩
      · rw [hp.stop (.inl (by omega))] at hS
        subst hS
        exact ⟨.refl _, .refl _, trivial⟩
end Go.Proofs.VI
