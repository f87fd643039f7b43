/- Contracts of functions, and what they rest on: l11ww. -/
import Derived.Test.YtjlonhiojgljcaaGreatH2
set_option linter.unusedVariables false
set_option linter.unusedSimpArgs false
set_option maxRecDepth 10000
set_option maxHeartbeats 4000000
namespace Go.Proofs.VI
open Go
def wW (bs : List Int) (n : Int) : Option Int := (bs[n.toNat]?).map wr16
def wG (ns : List GString) (vs : List Int) (s : ByteArray) : Option Int := if inI (placeOf ns s) 0 (vs.length - 1) = true then (vs[(placeOf ns s).toNat]?).map wr16 else none
theorem impl_worth (bs : List Int) (ns : List GString) (vs : List Int) (hns : ns.length ≤ 1099511627776) (hvs : vs.length ≤ 1099511627776) {h : Nat} {e : GExpr} (x : OkX h e) : Con 226 [.agg (GExpr.ro e), .ro 1 (GInt.ros bs), .ro 1 (GString.ros ns), .ro 1 (GInt.ros vs)] (gI (worthE (wW bs) (wG ns vs) e)) [none, none, none, none] := by
  have lb : (GInt.ros bs).length = bs.length := by simp
  have lv : (GInt.ros vs).length = vs.length := by simp
  induction x with
  | @num m n h0 h1 =>
    refine con Tryz.func226 ?_
    repeat' (first | (exfalso; simp [k_mk] at h; done) | refine And.intro (fun (h : _ = true) => ?_) (fun (h : _ = false) => ?_) | refine And.intro (fun (h : _ = false) => ?_) (fun (h : _ = true) => ?_) | refine And.intro (show regOk _ _ = true from by kernel_rfl) ?_ | refine And.intro (Sim.nb ?_) trivial | fail)
    all_goals rfl
  | @name m k s hk hs =>
    rcases hk with rfl | rfl
    · refine con Tryz.func226 ?_
      repeat' (first | (exfalso; simp [k_mk] at h; done) | refine And.intro (fun (h : _ = true) => ?_) (fun (h : _ = false) => ?_) | refine And.intro (fun (h : _ = false) => ?_) (fun (h : _ = true) => ?_) | refine And.intro (show regOk _ _ = true from by kernel_rfl) ?_ | refine And.intro (Sim.nb ?_) trivial | fail)
      all_goals rfl
    · have c := impl_placeIn ns s hns
      have e1 : IntKind.wrap .i64 (((GInt.ros vs).length : Int) - 1) = (vs.length : Int) - 1 := by rw [lv]; exact w64 (by omega) (by omega)
      have c2 := impl_within (placeOf ns s) 0 (vs.length - 1)
      rw [← e1] at c2
      have hX : worthE (wW bs) (wG ns vs) (.mk 12 0 s []) = wG ns vs s := rfl
      rw [hX, wG]
      rcases hw : inI (placeOf ns s) 0 (vs.length - 1) with _ | _
      · rw [e1, hw, ← e1] at c2
        rw [if_neg (by decide)]
        refine con Tryz.func226 ?_
        repeat' (first | (exfalso; simp [k_mk] at h; done) | refine And.intro (fun (h : _ = true) => ?_) (fun (h : _ = false) => ?_) | refine And.intro (fun (h : _ = false) => ?_) (fun (h : _ = true) => ?_) | refine And.intro (show regOk _ _ = true from by kernel_rfl) ?_ | refine And.intro (Sim.nb ?_) trivial | refine ⟨[.ro, .ro], .int .i64 _, [none, none], c, trivial, ?_⟩ | refine ⟨[.ro, .ro, .ro], .bool false, [none, none, none], c2, trivial, ?_⟩ | fail)
        all_goals rfl
      · rw [e1, hw, ← e1] at c2
        rw [if_pos rfl]
        have hb := inI_true.1 hw
        have hlt : (placeOf ns s).toNat < vs.length := by omega
        have hr : (GInt.ros vs)[(placeOf ns s).toNat]? = some (GInt.ro vs[(placeOf ns s).toNat]) := map_get _ _ hlt
        rw [List.getElem?_eq_getElem hlt]
        refine con Tryz.func226 ?_
        repeat' (first | (exfalso; simp [k_mk] at h; done) | refine And.intro (fun (h : _ = true) => ?_) (fun (h : _ = false) => ?_) | refine And.intro (fun (h : _ = false) => ?_) (fun (h : _ = true) => ?_) | refine And.intro (show regOk _ _ = true from by kernel_rfl) ?_ | refine And.intro (Sim.nb ?_) trivial | refine ⟨[.ro, .ro], .int .i64 _, [none, none], c, trivial, ?_⟩ | refine ⟨[.ro, .ro, .ro], .bool true, [none, none, none], c2, trivial, ?_⟩ | refine ⟨hb.1, _, hr, ?_⟩ | refine ⟨[.ro], .int .i64 _, [none], impl_Wrap _, trivial, ?_⟩ | fail)
        all_goals rfl
  | @here m =>
    refine con Tryz.func226 ?_
    repeat' (first | (exfalso; simp [k_mk] at h; done) | refine And.intro (fun (h : _ = true) => ?_) (fun (h : _ = false) => ?_) | refine And.intro (fun (h : _ = false) => ?_) (fun (h : _ = true) => ?_) | refine And.intro (show regOk _ _ = true from by kernel_rfl) ?_ | refine And.intro (Sim.nb ?_) trivial | fail)
    all_goals rfl
  | @sect m n h0 h1 =>
    have hX : worthE (wW bs) (wG ns vs) (.mk 11 n ⟨#[]⟩ []) = wW bs n := rfl
    rw [hX, wW]
    by_cases hlt : n.toNat < bs.length
    · have e0 : decide (n < ((GInt.ros bs).length : Int)) = true := decide_eq_true (by rw [lb]; omega)
      have hr : (GInt.ros bs)[n.toNat]? = some (GInt.ro bs[n.toNat]) := map_get _ _ hlt
      rw [List.getElem?_eq_getElem hlt]
      refine con Tryz.func226 ?_
      repeat' (first | (exfalso; simp [k_mk] at h; done) | (exfalso; rw [n_mk, e0] at h; cases h; done) | refine And.intro (fun (h : _ = true) => ?_) (fun (h : _ = false) => ?_) | refine And.intro (fun (h : _ = false) => ?_) (fun (h : _ = true) => ?_) | refine And.intro (show regOk _ _ = true from by kernel_rfl) ?_ | refine And.intro (Sim.nb ?_) trivial | refine ⟨h0, _, hr, ?_⟩ | refine ⟨[.ro], .int .i64 _, [none], impl_Wrap _, trivial, ?_⟩ | fail)
      all_goals rfl
    · have e0 : decide (n < ((GInt.ros bs).length : Int)) = false := decide_eq_false (by rw [lb]; omega)
      rw [List.getElem?_eq_none (by omega)]
      refine con Tryz.func226 ?_
      repeat' (first | (exfalso; simp [k_mk] at h; done) | (exfalso; rw [n_mk, e0] at h; cases h; done) | refine And.intro (fun (h : _ = true) => ?_) (fun (h : _ = false) => ?_) | refine And.intro (fun (h : _ = false) => ?_) (fun (h : _ = true) => ?_) | refine And.intro (show regOk _ _ = true from by kernel_rfl) ?_ | refine And.intro (Sim.nb ?_) trivial | fail)
      all_goals rfl
  | @neg m a ha ih =>
    have r0 : (GExpr.ros [a])[0]? = some (GExpr.ro a) := ros_get [a] 0 (by simp)
    have hX : worthE (wW bs) (wG ns vs) (.mk 4 0 ⟨#[]⟩ [a]) = (worthE (wW bs) (wG ns vs) a).bind fun a => some (wr16 (-a)) := rfl
    rw [hX]
    rcases hw : worthE (wW bs) (wG ns vs) a with _ | u <;> rw [hw] at ih
    · refine con Tryz.func226 ?_
      repeat' (first | (exfalso; simp [k_mk] at h; done) | refine And.intro (fun (h : _ = true) => ?_) (fun (h : _ = false) => ?_) | refine And.intro (fun (h : _ = false) => ?_) (fun (h : _ = true) => ?_) | refine And.intro (show regOk _ _ = true from by kernel_rfl) ?_ | refine And.intro (Sim.nb ?_) trivial | refine ⟨Int.le_refl 0, _, r0, ?_⟩ | refine ⟨[.ro, .ro, .ro, .ro], .tup [.int .i64 0, .bool false], [none, none, none, none], ih, trivial, ?_⟩ | fail)
      all_goals rfl
    · have cn := impl_Wrap (IntKind.wrap .i64 (-u))
      rw [wr16_wrap] at cn
      refine con Tryz.func226 ?_
      repeat' (first | (exfalso; simp [k_mk] at h; done) | refine And.intro (fun (h : _ = true) => ?_) (fun (h : _ = false) => ?_) | refine And.intro (fun (h : _ = false) => ?_) (fun (h : _ = true) => ?_) | refine And.intro (show regOk _ _ = true from by kernel_rfl) ?_ | refine And.intro (Sim.nb ?_) trivial | refine ⟨Int.le_refl 0, _, r0, ?_⟩ | refine ⟨[.ro, .ro, .ro, .ro], .tup [.int .i64 u, .bool true], [none, none, none, none], ih, trivial, ?_⟩ | refine ⟨[.ro], .int .i64 _, [none], cn, trivial, ?_⟩ | fail)
      all_goals rfl
  | @two m k a b h0 h1 ha hb iha ihb =>
    have r0 : (GExpr.ros [a, b])[0]? = some (GExpr.ro a) := ros_get [a, b] 0 (by simp)
    have r1 : (GExpr.ros [a, b])[1]? = some (GExpr.ro b) := ros_get [a, b] 1 (by simp)
    have hX : worthE (wW bs) (wG ns vs) (.mk k 0 ⟨#[]⟩ [a, b]) = (worthE (wW bs) (wG ns vs) a).bind fun u => (worthE (wW bs) (wG ns vs) b).bind fun v => compE k u v := rfl
    rw [hX]
    have d1 : decide (k = 1) = false ∧ decide (k = 11) = false ∧ decide (k = 12) = false ∧ decide (k = 2) = false ∧ decide (k = 3) = false ∧ decide (k = 4) = false := ⟨decide_eq_false (by omega), decide_eq_false (by omega), decide_eq_false (by omega), decide_eq_false (by omega), decide_eq_false (by omega), decide_eq_false (by omega)⟩
    rcases hw : worthE (wW bs) (wG ns vs) a with _ | u <;> rw [hw] at iha
    · refine con Tryz.func226 ?_
      repeat' (first | (exfalso; simp at h; done) | (exfalso; rw [k_mk] at h; (first | rw [d1.1] at h | rw [d1.2.1] at h | rw [d1.2.2.1] at h | rw [d1.2.2.2.1] at h | rw [d1.2.2.2.2.1] at h | rw [d1.2.2.2.2.2] at h); cases h; done) | refine And.intro (fun (h : _ = true) => ?_) (fun (h : _ = false) => ?_) | refine And.intro (fun (h : _ = false) => ?_) (fun (h : _ = true) => ?_) | refine And.intro (show regOk _ _ = true from by kernel_rfl) ?_ | refine And.intro (Sim.nb ?_) trivial | refine ⟨Int.le_refl 0, _, r0, ?_⟩ | refine ⟨[.ro, .ro, .ro, .ro], .tup [.int .i64 0, .bool false], [none, none, none, none], iha, trivial, ?_⟩ | fail)
      all_goals rfl
    · rcases hw2 : worthE (wW bs) (wG ns vs) b with _ | v <;> rw [hw2] at ihb
      · refine con Tryz.func226 ?_
        repeat' (first | (exfalso; simp at h; done) | (exfalso; rw [k_mk] at h; (first | rw [d1.1] at h | rw [d1.2.1] at h | rw [d1.2.2.1] at h | rw [d1.2.2.2.1] at h | rw [d1.2.2.2.2.1] at h | rw [d1.2.2.2.2.2] at h); cases h; done) | refine And.intro (fun (h : _ = true) => ?_) (fun (h : _ = false) => ?_) | refine And.intro (fun (h : _ = false) => ?_) (fun (h : _ = true) => ?_) | refine And.intro (show regOk _ _ = true from by kernel_rfl) ?_ | refine And.intro (Sim.nb ?_) trivial | refine ⟨Int.le_refl 0, _, r0, ?_⟩ | refine ⟨(show (0 : Int) ≤ 1 from by decide), _, r1, ?_⟩ | refine ⟨[.ro, .ro, .ro, .ro], .tup [.int .i64 u, .bool true], [none, none, none, none], iha, trivial, ?_⟩ | refine ⟨[.ro, .ro, .ro, .ro], .tup [.int .i64 0, .bool false], [none, none, none, none], ihb, trivial, ?_⟩ | fail)
        all_goals rfl
      · have c := impl_compute k u v
        have hX2 : ((some u).bind fun u => (some v).bind fun v => compE k u v) = compE k u v := rfl
        rw [hX2]
        rcases hc : compE k u v with _ | w <;> rw [hc] at c
        · refine con Tryz.func226 ?_
          repeat' (first | (exfalso; simp at h; done) | (exfalso; rw [k_mk] at h; (first | rw [d1.1] at h | rw [d1.2.1] at h | rw [d1.2.2.1] at h | rw [d1.2.2.2.1] at h | rw [d1.2.2.2.2.1] at h | rw [d1.2.2.2.2.2] at h); cases h; done) | refine And.intro (fun (h : _ = true) => ?_) (fun (h : _ = false) => ?_) | refine And.intro (fun (h : _ = false) => ?_) (fun (h : _ = true) => ?_) | refine And.intro (show regOk _ _ = true from by kernel_rfl) ?_ | refine And.intro (Sim.nb ?_) trivial | refine ⟨Int.le_refl 0, _, r0, ?_⟩ | refine ⟨(show (0 : Int) ≤ 1 from by decide), _, r1, ?_⟩ | refine ⟨[.ro, .ro, .ro, .ro], .tup [.int .i64 u, .bool true], [none, none, none, none], iha, trivial, ?_⟩ | refine ⟨[.ro, .ro, .ro, .ro], .tup [.int .i64 v, .bool true], [none, none, none, none], ihb, trivial, ?_⟩ | refine ⟨[.ro, .ro, .ro], .tup [.int .i64 0, .bool false], [none, none, none], c, trivial, ?_⟩ | fail)
          all_goals rfl
        · refine con Tryz.func226 ?_
          repeat' (first | (exfalso; simp at h; done) | (exfalso; rw [k_mk] at h; (first | rw [d1.1] at h | rw [d1.2.1] at h | rw [d1.2.2.1] at h | rw [d1.2.2.2.1] at h | rw [d1.2.2.2.2.1] at h | rw [d1.2.2.2.2.2] at h); cases h; done) | refine And.intro (fun (h : _ = true) => ?_) (fun (h : _ = false) => ?_) | refine And.intro (fun (h : _ = false) => ?_) (fun (h : _ = true) => ?_) | refine And.intro (show regOk _ _ = true from by kernel_rfl) ?_ | refine And.intro (Sim.nb ?_) trivial | refine ⟨Int.le_refl 0, _, r0, ?_⟩ | refine ⟨(show (0 : Int) ≤ 1 from by decide), _, r1, ?_⟩ | refine ⟨[.ro, .ro, .ro, .ro], .tup [.int .i64 u, .bool true], [none, none, none, none], iha, trivial, ?_⟩ | refine ⟨[.ro, .ro, .ro, .ro], .tup [.int .i64 v, .bool true], [none, none, none, none], ihb, trivial, ?_⟩ | refine ⟨[.ro, .ro, .ro], .tup [.int .i64 w, .bool true], [none, none, none], c, trivial, ?_⟩ | fail)
          all_goals rfl
theorem spec_l11Worth (bs : List Int) (ns : List GString) (vs : List Int) (hns : ns.length ≤ 1099511627776) (hvs : vs.length ≤ 1099511627776) {h : Nat} {e : GExpr} (x : OkX h e) : Con 223 [.agg (GExpr.ro e), .ro 1 (GInt.ros bs), .ro 1 (GString.ros ns), .ro 1 (GInt.ros vs)] (gI (worthE (wW bs) (wG ns vs) e)) [none, none, none, none] := by
  have lb : (GInt.ros bs).length = bs.length := by simp
  have lv : (GInt.ros vs).length = vs.length := by simp
  induction x with
  | @num m n h0 h1 =>
    refine con Tryz.func223 ?_
    repeat' (first | (exfalso; simp [k_mk] at h; done) | refine And.intro (fun (h : _ = true) => ?_) (fun (h : _ = false) => ?_) | refine And.intro (fun (h : _ = false) => ?_) (fun (h : _ = true) => ?_) | refine And.intro (show regOk _ _ = true from by kernel_rfl) ?_ | refine And.intro (Sim.nb ?_) trivial | fail)
    all_goals rfl
  | @name m k s hk hs =>
    rcases hk with rfl | rfl
    · refine con Tryz.func223 ?_
      repeat' (first | (exfalso; simp [k_mk] at h; done) | refine And.intro (fun (h : _ = true) => ?_) (fun (h : _ = false) => ?_) | refine And.intro (fun (h : _ = false) => ?_) (fun (h : _ = true) => ?_) | refine And.intro (show regOk _ _ = true from by kernel_rfl) ?_ | refine And.intro (Sim.nb ?_) trivial | fail)
      all_goals rfl
    · have c := spec_l9At ns s hns
      have hX : worthE (wW bs) (wG ns vs) (.mk 12 0 s []) = wG ns vs s := rfl
      rw [hX, wG]
      rcases hw : inI (placeOf ns s) 0 (vs.length - 1) with _ | _
      · have hno : placeOf ns s < 0 ∨ (vs.length : Int) ≤ placeOf ns s := by
          rcases Int.lt_or_le (placeOf ns s) 0 with a | a
          · exact .inl a
          · refine .inr (Classical.byContradiction fun b => ?_)
            rw [inI, decide_eq_true a, decide_eq_true (show placeOf ns s ≤ (vs.length : Int) - 1 by omega)] at hw
            cases hw
        rw [if_neg (by decide)]
        refine con Tryz.func223 ?_
        repeat' (first | (exfalso; simp only [lv, decide_eq_true_eq, decide_eq_false_iff_not] at *; omega) | (exfalso; simp [k_mk] at h; done) | refine And.intro (fun (h : _ = true) => ?_) (fun (h : _ = false) => ?_) | refine And.intro (fun (h : _ = false) => ?_) (fun (h : _ = true) => ?_) | refine And.intro (show regOk _ _ = true from by kernel_rfl) ?_ | refine And.intro (Sim.nb ?_) trivial | refine ⟨[.ro, .ro], .int .i64 _, [none, none], c, trivial, ?_⟩ | fail)
        all_goals rfl
      · rw [if_pos rfl]
        have hb := inI_true.1 hw
        have hlt : (placeOf ns s).toNat < vs.length := by omega
        have hr : (GInt.ros vs)[(placeOf ns s).toNat]? = some (GInt.ro vs[(placeOf ns s).toNat]) := map_get _ _ hlt
        rw [List.getElem?_eq_getElem hlt]
        refine con Tryz.func223 ?_
        repeat' (first | (exfalso; simp only [lv, decide_eq_true_eq, decide_eq_false_iff_not] at h; omega) | (exfalso; simp [k_mk] at h; done) | refine And.intro (fun (h : _ = true) => ?_) (fun (h : _ = false) => ?_) | refine And.intro (fun (h : _ = false) => ?_) (fun (h : _ = true) => ?_) | refine And.intro (show regOk _ _ = true from by kernel_rfl) ?_ | refine And.intro (Sim.nb ?_) trivial | refine ⟨[.ro, .ro], .int .i64 _, [none, none], c, trivial, ?_⟩ | refine ⟨hb.1, _, hr, ?_⟩ | refine ⟨[.ro], .int .i64 _, [none], spec_Wrap _, trivial, ?_⟩ | fail)
        all_goals rfl
  | @here m =>
    refine con Tryz.func223 ?_
    repeat' (first | (exfalso; simp [k_mk] at h; done) | refine And.intro (fun (h : _ = true) => ?_) (fun (h : _ = false) => ?_) | refine And.intro (fun (h : _ = false) => ?_) (fun (h : _ = true) => ?_) | refine And.intro (show regOk _ _ = true from by kernel_rfl) ?_ | refine And.intro (Sim.nb ?_) trivial | fail)
    all_goals rfl
  | @sect m n h0 h1 =>
    have hX : worthE (wW bs) (wG ns vs) (.mk 11 n ⟨#[]⟩ []) = wW bs n := rfl
    rw [hX, wW]
    by_cases hlt : n.toNat < bs.length
    · have e0 : decide (((GInt.ros bs).length : Int) ≤ n) = false := decide_eq_false (by rw [lb]; omega)
      have hr : (GInt.ros bs)[n.toNat]? = some (GInt.ro bs[n.toNat]) := map_get _ _ hlt
      rw [List.getElem?_eq_getElem hlt]
      refine con Tryz.func223 ?_
      repeat' (first | (exfalso; simp [k_mk] at h; done) | (exfalso; rw [n_mk, e0] at h; cases h; done) | refine And.intro (fun (h : _ = true) => ?_) (fun (h : _ = false) => ?_) | refine And.intro (fun (h : _ = false) => ?_) (fun (h : _ = true) => ?_) | refine And.intro (show regOk _ _ = true from by kernel_rfl) ?_ | refine And.intro (Sim.nb ?_) trivial | refine ⟨h0, _, hr, ?_⟩ | refine ⟨[.ro], .int .i64 _, [none], spec_Wrap _, trivial, ?_⟩ | fail)
      all_goals rfl
    · have e0 : decide (((GInt.ros bs).length : Int) ≤ n) = true := decide_eq_true (by rw [lb]; omega)
      rw [List.getElem?_eq_none (by omega)]
      refine con Tryz.func223 ?_
      repeat' (first | (exfalso; simp [k_mk] at h; done) | (exfalso; rw [n_mk, e0] at h; cases h; done) | refine And.intro (fun (h : _ = true) => ?_) (fun (h : _ = false) => ?_) | refine And.intro (fun (h : _ = false) => ?_) (fun (h : _ = true) => ?_) | refine And.intro (show regOk _ _ = true from by kernel_rfl) ?_ | refine And.intro (Sim.nb ?_) trivial | fail)
      all_goals rfl
  | @neg m a ha ih =>
    have r0 : (GExpr.ros [a])[0]? = some (GExpr.ro a) := ros_get [a] 0 (by simp)
    have hX : worthE (wW bs) (wG ns vs) (.mk 4 0 ⟨#[]⟩ [a]) = (worthE (wW bs) (wG ns vs) a).bind fun a => some (wr16 (-a)) := rfl
    rw [hX]
    rcases hw : worthE (wW bs) (wG ns vs) a with _ | u <;> rw [hw] at ih
    · have cn := spec_Wrap (IntKind.wrap .i64 (-0))
      refine con Tryz.func223 ?_
      repeat' (first | (exfalso; simp [k_mk] at h; done) | refine And.intro (fun (h : _ = true) => ?_) (fun (h : _ = false) => ?_) | refine And.intro (fun (h : _ = false) => ?_) (fun (h : _ = true) => ?_) | refine And.intro (show regOk _ _ = true from by kernel_rfl) ?_ | refine And.intro (Sim.nb ?_) trivial | refine ⟨Int.le_refl 0, _, r0, ?_⟩ | refine ⟨[.ro, .ro, .ro, .ro], .tup [.int .i64 0, .bool false], [none, none, none, none], ih, trivial, ?_⟩ | refine ⟨[.ro], .int .i64 _, [none], cn, trivial, ?_⟩ | fail)
      all_goals rfl
    · have cn := spec_Wrap (IntKind.wrap .i64 (-u))
      rw [wr16_wrap] at cn
      refine con Tryz.func223 ?_
      repeat' (first | (exfalso; simp [k_mk] at h; done) | refine And.intro (fun (h : _ = true) => ?_) (fun (h : _ = false) => ?_) | refine And.intro (fun (h : _ = false) => ?_) (fun (h : _ = true) => ?_) | refine And.intro (show regOk _ _ = true from by kernel_rfl) ?_ | refine And.intro (Sim.nb ?_) trivial | refine ⟨Int.le_refl 0, _, r0, ?_⟩ | refine ⟨[.ro, .ro, .ro, .ro], .tup [.int .i64 u, .bool true], [none, none, none, none], ih, trivial, ?_⟩ | refine ⟨[.ro], .int .i64 _, [none], cn, trivial, ?_⟩ | fail)
      all_goals rfl
  | @two m k a b h0 h1 ha hb iha ihb =>
    have r0 : (GExpr.ros [a, b])[0]? = some (GExpr.ro a) := ros_get [a, b] 0 (by simp)
    have r1 : (GExpr.ros [a, b])[1]? = some (GExpr.ro b) := ros_get [a, b] 1 (by simp)
    have hX : worthE (wW bs) (wG ns vs) (.mk k 0 ⟨#[]⟩ [a, b]) = (worthE (wW bs) (wG ns vs) a).bind fun u => (worthE (wW bs) (wG ns vs) b).bind fun v => compE k u v := rfl
    rw [hX]
    have d1 : decide (k = 1) = false ∧ decide (k = 11) = false ∧ decide (k = 12) = false ∧ decide (k = 2) = false ∧ decide (k = 3) = false ∧ decide (k = 4) = false := ⟨decide_eq_false (by omega), decide_eq_false (by omega), decide_eq_false (by omega), decide_eq_false (by omega), decide_eq_false (by omega), decide_eq_false (by omega)⟩
    rcases hw : worthE (wW bs) (wG ns vs) a with _ | u <;> rw [hw] at iha <;> rcases hw2 : worthE (wW bs) (wG ns vs) b with _ | v <;> rw [hw2] at ihb
    · refine con Tryz.func223 ?_
      repeat' (first | (exfalso; simp at h; done) | (exfalso; rw [k_mk] at h; (first | rw [d1.1] at h | rw [d1.2.1] at h | rw [d1.2.2.1] at h | rw [d1.2.2.2.1] at h | rw [d1.2.2.2.2.1] at h | rw [d1.2.2.2.2.2] at h); cases h; done) | refine And.intro (fun (h : _ = true) => ?_) (fun (h : _ = false) => ?_) | refine And.intro (fun (h : _ = false) => ?_) (fun (h : _ = true) => ?_) | refine And.intro (show regOk _ _ = true from by kernel_rfl) ?_ | refine And.intro (Sim.nb ?_) trivial | refine ⟨Int.le_refl 0, _, r0, ?_⟩ | refine ⟨(show (0 : Int) ≤ 1 from by decide), _, r1, ?_⟩ | refine ⟨[.ro, .ro, .ro, .ro], .tup [.int .i64 0, .bool false], [none, none, none, none], iha, trivial, ?_⟩ | refine ⟨[.ro, .ro, .ro, .ro], .tup [.int .i64 0, .bool false], [none, none, none, none], ihb, trivial, ?_⟩ | fail)
      all_goals rfl
    · refine con Tryz.func223 ?_
      repeat' (first | (exfalso; simp at h; done) | (exfalso; rw [k_mk] at h; (first | rw [d1.1] at h | rw [d1.2.1] at h | rw [d1.2.2.1] at h | rw [d1.2.2.2.1] at h | rw [d1.2.2.2.2.1] at h | rw [d1.2.2.2.2.2] at h); cases h; done) | refine And.intro (fun (h : _ = true) => ?_) (fun (h : _ = false) => ?_) | refine And.intro (fun (h : _ = false) => ?_) (fun (h : _ = true) => ?_) | refine And.intro (show regOk _ _ = true from by kernel_rfl) ?_ | refine And.intro (Sim.nb ?_) trivial | refine ⟨Int.le_refl 0, _, r0, ?_⟩ | refine ⟨(show (0 : Int) ≤ 1 from by decide), _, r1, ?_⟩ | refine ⟨[.ro, .ro, .ro, .ro], .tup [.int .i64 0, .bool false], [none, none, none, none], iha, trivial, ?_⟩ | refine ⟨[.ro, .ro, .ro, .ro], .tup [.int .i64 v, .bool true], [none, none, none, none], ihb, trivial, ?_⟩ | fail)
      all_goals rfl
    · refine con Tryz.func223 ?_
      repeat' (first | (exfalso; simp at h; done) | (exfalso; rw [k_mk] at h; (first | rw [d1.1] at h | rw [d1.2.1] at h | rw [d1.2.2.1] at h | rw [d1.2.2.2.1] at h | rw [d1.2.2.2.2.1] at h | rw [d1.2.2.2.2.2] at h); cases h; done) | refine And.intro (fun (h : _ = true) => ?_) (fun (h : _ = false) => ?_) | refine And.intro (fun (h : _ = false) => ?_) (fun (h : _ = true) => ?_) | refine And.intro (show regOk _ _ = true from by kernel_rfl) ?_ | refine And.intro (Sim.nb ?_) trivial | refine ⟨Int.le_refl 0, _, r0, ?_⟩ | refine ⟨(show (0 : Int) ≤ 1 from by decide), _, r1, ?_⟩ | refine ⟨[.ro, .ro, .ro, .ro], .tup [.int .i64 u, .bool true], [none, none, none, none], iha, trivial, ?_⟩ | refine ⟨[.ro, .ro, .ro, .ro], .tup [.int .i64 0, .bool false], [none, none, none, none], ihb, trivial, ?_⟩ | fail)
      all_goals rfl
    · have c := spec_l11Two k u v
      have hX2 : ((some u).bind fun u => (some v).bind fun v => compE k u v) = compE k u v := rfl
      rw [hX2]
      rcases hc : compE k u v with _ | w <;> rw [hc] at c
      · refine con Tryz.func223 ?_
        repeat' (first | (exfalso; simp at h; done) | (exfalso; rw [k_mk] at h; (first | rw [d1.1] at h | rw [d1.2.1] at h | rw [d1.2.2.1] at h | rw [d1.2.2.2.1] at h | rw [d1.2.2.2.2.1] at h | rw [d1.2.2.2.2.2] at h); cases h; done) | refine And.intro (fun (h : _ = true) => ?_) (fun (h : _ = false) => ?_) | refine And.intro (fun (h : _ = false) => ?_) (fun (h : _ = true) => ?_) | refine And.intro (show regOk _ _ = true from by kernel_rfl) ?_ | refine And.intro (Sim.nb ?_) trivial | refine ⟨Int.le_refl 0, _, r0, ?_⟩ | refine ⟨(show (0 : Int) ≤ 1 from by decide), _, r1, ?_⟩ | refine ⟨[.ro, .ro, .ro, .ro], .tup [.int .i64 u, .bool true], [none, none, none, none], iha, trivial, ?_⟩ | refine ⟨[.ro, .ro, .ro, .ro], .tup [.int .i64 v, .bool true], [none, none, none, none], ihb, trivial, ?_⟩ | refine ⟨[.ro, .ro, .ro], .tup [.int .i64 0, .bool false], [none, none, none], c, trivial, ?_⟩ | fail)
        all_goals rfl
      · refine con Tryz.func223 ?_
        repeat' (first | (exfalso; simp at h; done) | (exfalso; rw [k_mk] at h; (first | rw [d1.1] at h | rw [d1.2.1] at h | rw [d1.2.2.1] at h | rw [d1.2.2.2.1] at h | rw [d1.2.2.2.2.1] at h | rw [d1.2.2.2.2.2] at h); cases h; done) | refine And.intro (fun (h : _ = true) => ?_) (fun (h : _ = false) => ?_) | refine And.intro (fun (h : _ = false) => ?_) (fun (h : _ = true) => ?_) | refine And.intro (show regOk _ _ = true from by kernel_rfl) ?_ | refine And.intro (Sim.nb ?_) trivial | refine ⟨Int.le_refl 0, _, r0, ?_⟩ | refine ⟨(show (0 : Int) ≤ 1 from by decide), _, r1, ?_⟩ | refine ⟨[.ro, .ro, .ro, .ro], .tup [.int .i64 u, .bool true], [none, none, none, none], iha, trivial, ?_⟩ | refine ⟨[.ro, .ro, .ro, .ro], .tup [.int .i64 v, .bool true], [none, none, none, none], ihb, trivial, ?_⟩ | refine ⟨[.ro, .ro, .ro], .tup [.int .i64 w, .bool true], [none, none, none], c, trivial, ?_⟩ | fail)
        all_goals rfl
theorem impl_WorthX (bs : List Int) (ns : List GString) (vs : List Int) (hns : ns.length ≤ 1099511627776) (hvs : vs.length ≤ 1099511627776) (e : GExpr) (fe : GExpr.fit e) (oe : GExpr.ok e) : Con 157 [.agg (GExpr.ro e), .ro 1 (GInt.ros bs), .ro 1 (GString.ros ns), .ro 1 (GInt.ros vs)] (gI (worthX (wW bs) (wG ns vs) e)) [none, none, none, none] := by
  have c1 := impl_ExprOk e fe oe
  refine con Tryz.func157 ?_
  rcases ho : okE e 1 false with _ | _ <;> rw [ho] at c1
  · rw [worthX, if_neg (by rw [ho]; decide)]
    repeat' (first | (exfalso; simp at h; done) | refine And.intro (fun (h : _ = true) => ?_) (fun (h : _ = false) => ?_) | refine And.intro (fun (h : _ = false) => ?_) (fun (h : _ = true) => ?_) | refine And.intro (show regOk _ _ = true from by kernel_rfl) ?_ | refine And.intro (Sim.nb ?_) trivial | refine ⟨[.ro], .bool false, [none], c1, trivial, ?_⟩ | fail)
    all_goals rfl
  · rw [worthX, if_pos ho]
    have c2 := impl_worth bs ns vs hns hvs ((okE_six e).1 ho)
    rcases hw : worthE (wW bs) (wG ns vs) e with _ | w <;> rw [hw] at c2
    · repeat' (first | (exfalso; simp at h; done) | refine And.intro (fun (h : _ = true) => ?_) (fun (h : _ = false) => ?_) | refine And.intro (fun (h : _ = false) => ?_) (fun (h : _ = true) => ?_) | refine And.intro (show regOk _ _ = true from by kernel_rfl) ?_ | refine And.intro (Sim.nb ?_) trivial | refine ⟨[.ro], .bool true, [none], c1, trivial, ?_⟩ | refine ⟨[.ro, .ro, .ro, .ro], .tup [.int .i64 0, .bool false], [none, none, none, none], c2, trivial, ?_⟩ | fail)
      all_goals rfl
    · repeat' (first | (exfalso; simp at h; done) | refine And.intro (fun (h : _ = true) => ?_) (fun (h : _ = false) => ?_) | refine And.intro (fun (h : _ = false) => ?_) (fun (h : _ = true) => ?_) | refine And.intro (show regOk _ _ = true from by kernel_rfl) ?_ | refine And.intro (Sim.nb ?_) trivial | refine ⟨[.ro], .bool true, [none], c1, trivial, ?_⟩ | refine ⟨[.ro, .ro, .ro, .ro], .tup [.int .i64 w, .bool true], [none, none, none, none], c2, trivial, ?_⟩ | fail)
      all_goals rfl
theorem spec_WorthX (bs : List Int) (ns : List GString) (vs : List Int) (hns : ns.length ≤ 1099511627776) (hvs : vs.length ≤ 1099511627776) (e : GExpr) (fe : GExpr.fit e) (oe : GExpr.ok e) : Con 155 [.agg (GExpr.ro e), .ro 1 (GInt.ros bs), .ro 1 (GString.ros ns), .ro 1 (GInt.ros vs)] (gI (worthX (wW bs) (wG ns vs) e)) [none, none, none, none] := by
  have c1 := spec_ExprOk e fe oe
  refine con Tryz.func155 ?_
  rcases ho : okE e 1 false with _ | _ <;> rw [ho] at c1
  · rw [worthX, if_neg (by rw [ho]; decide)]
    repeat' (first | (exfalso; simp at h; done) | refine And.intro (fun (h : _ = true) => ?_) (fun (h : _ = false) => ?_) | refine And.intro (fun (h : _ = false) => ?_) (fun (h : _ = true) => ?_) | refine And.intro (show regOk _ _ = true from by kernel_rfl) ?_ | refine And.intro (Sim.nb ?_) trivial | refine ⟨[.ro], .bool false, [none], c1, trivial, ?_⟩ | fail)
    all_goals rfl
  · rw [worthX, if_pos ho]
    have c2 := spec_l11Worth bs ns vs hns hvs ((okE_six e).1 ho)
    rcases hw : worthE (wW bs) (wG ns vs) e with _ | w <;> rw [hw] at c2
    · repeat' (first | (exfalso; simp at h; done) | refine And.intro (fun (h : _ = true) => ?_) (fun (h : _ = false) => ?_) | refine And.intro (fun (h : _ = false) => ?_) (fun (h : _ = true) => ?_) | refine And.intro (show regOk _ _ = true from by kernel_rfl) ?_ | refine And.intro (Sim.nb ?_) trivial | refine ⟨[.ro], .bool true, [none], c1, trivial, ?_⟩ | refine ⟨[.ro, .ro, .ro, .ro], .tup [.int .i64 0, .bool false], [none, none, none, none], c2, trivial, ?_⟩ | fail)
      all_goals rfl
    · repeat' (first | (exfalso; simp at h; done) | refine And.intro (fun (h : _ = true) => ?_) (fun (h : _ = false) => ?_) | refine And.intro (fun (h : _ = false) => ?_) (fun (h : _ = true) => ?_) | refine And.intro (show regOk _ _ = true from by kernel_rfl) ?_ | refine And.intro (Sim.nb ?_) trivial | refine ⟨[.ro], .bool true, [none], c1, trivial, ?_⟩ | refine ⟨[.ro, .ro, .ro, .ro], .tup [.int .i64 w, .bool true], [none, none, none, none], c2, trivial, ?_⟩ | fail)
      all_goals rfl
end Go.Proofs.VI
