/- Contracts of functions, and what they rest on: decode. -/
import Derived.Test.YtjlonhiojgljcaaGreatD1
import Derived.Test.YtjlonhiojgljcaaGreatT
set_option linter.unusedVariables false
set_option linter.unusedSimpArgs false
set_option maxRecDepth 10000
set_option maxHeartbeats 4000000
namespace Go.Proofs.VI
open Go
theorem args_cons {tt : TypeId → Option TI} {t : TypeId} {ts : List TypeId} {avs : List AV} {i : TI} (hi : tt t = some i) (h : HasArgs tt (t :: ts) avs) : ∃ vs avs', avs = argAV i vs :: avs' ∧ HasTy tt t vs ∧ HasArgs tt ts avs' := by
  obtain ⟨i', vs, a, rfl, h1, h2, h3⟩ := h
  rw [hi] at h1; injection h1 with h1; subst h1
  exact ⟨vs, a, rfl, h2, h3⟩
theorem kind_eq {tt : TypeId → Option TI} {t : TypeId} {i j : TI} (h1 : tt t = some i) (h2 : tt t = some j) : i = j := Option.some.inj (h1.symm.trans h2)
theorem u8_row {n : Int} (h : 0 ≤ n ∧ n ≤ 255) : [AV.int .u8 n] = GByte.ro (UInt8.ofNat n.toNat) := by
  rw [GByte.ro, UInt8.toNat_ofNat']; congr 2; omega
theorem hty_ByteS {l : List AV} (h : HasTy tt 74 l) : ∃ x : List GByte, l = [.ro 1 (GByte.ros x)] ∧ x.length ≤ 9223372036854775807 ∧ ∀ y ∈ x, GByte.ok y := by
  obtain ⟨rows, rfl, h1, h2⟩ := hty_slice rfl rfl rfl h
  obtain ⟨x, rfl, hx⟩ := rows_of (f := GByte.ro) (q := GByte.ok) rows (fun row hr => (hty_int rfl rfl (h2 row hr)).elim fun n hn => ⟨UInt8.ofNat n.toNat, by rw [hn.1]; exact u8_row (wfu8 hn.2), trivial⟩)
  exact ⟨x, rfl, by rw [List.length_map] at h1; exact h1, hx⟩
theorem hty_Expr_aux {t : TypeId} {l : List AV} (h : HasTy tt t l) : (t = 199 → ∃ a : GExpr, l = GExpr.ro a ∧ GExpr.ok a) ∧ (t = 194 → ∃ x : List GExpr, l = [.ro 4 (GExpr.ros x)] ∧ x.length ≤ 9223372036854775807 ∧ ∀ y ∈ x, GExpr.ok y) := by
  induction h with
  | int h1 h2 h3 => exact ⟨(fun e => by subst e; rw [kind_eq h1 (show tt 199 = some _ from rfl)] at h2; cases h2), (fun e => by subst e; rw [kind_eq h1 (show tt 194 = some _ from rfl)] at h2; cases h2)⟩
  | bool h1 h2 => exact ⟨(fun e => by subst e; rw [kind_eq h1 (show tt 199 = some _ from rfl)] at h2; cases h2), (fun e => by subst e; rw [kind_eq h1 (show tt 194 = some _ from rfl)] at h2; cases h2)⟩
  | str h1 h2 h3 => exact ⟨(fun e => by subst e; rw [kind_eq h1 (show tt 199 = some _ from rfl)] at h2; cases h2), (fun e => by subst e; rw [kind_eq h1 (show tt 194 = some _ from rfl)] at h2; cases h2)⟩
  | slice h1 h2 h3 h4 h5 ih =>
    refine ⟨(fun e => by subst e; rw [kind_eq h1 (show tt 199 = some _ from rfl)] at h2; cases h2), fun e => ?_⟩
    subst e
    obtain rfl := Option.some.inj (h1.symm.trans (show tt 194 = some _ from rfl))
    injection h2 with h2; subst h2
    obtain rfl := Option.some.inj (h3.symm.trans (show tt 199 = some _ from rfl))
    obtain ⟨x, rfl, hx⟩ := rows_of (f := GExpr.ro) (q := GExpr.ok) _ fun row hr => (ih row hr).1 rfl
    exact ⟨x, by rw [GExpr.ros_eq], by rw [List.length_map] at h4; exact h4, hx⟩
  | @struct t i fs l h1 h2 h3 h4 h5 ih =>
    refine ⟨fun e => ?_, (fun e => by subst e; rw [kind_eq h1 (show tt 194 = some _ from rfl)] at h2; cases h2)⟩
    subst e
    obtain rfl := Option.some.inj (h1.symm.trans (show tt 199 = some _ from rfl))
    injection h2 with h2; subst h2
    have hl := h3
    obtain ⟨f0, h0, w0⟩ := hty_int rfl rfl (h5 0 0 3 _ rfl rfl)
    obtain ⟨f1, h1, w1⟩ := hty_int rfl rfl (h5 1 1 3 _ rfl rfl)
    obtain ⟨f2, h2, w2⟩ := hty_str rfl rfl (h5 2 2 9 _ rfl rfl)
    obtain ⟨f3, h3, w3⟩ := (ih 3 3 194 _ rfl rfl).2 rfl
    exact ⟨.mk f0 f1 f2 f3, show l.drop 0 = _ from cut_cells 0 1 h0 _ (cut_cells 1 1 h1 _ (cut_cells 2 1 h2 _ (cut_cells 3 1 h3 _ (List.drop_eq_nil_of_le (Nat.le_of_eq hl))))), by rw [GExpr.ok]; exact ⟨wf64 w0, wf64 w1, w2, w3.1, (GExpr.okL_iff _).2 w3.2⟩⟩
theorem hty_Expr {l : List AV} (h : HasTy tt 199 l) : ∃ a : GExpr, l = GExpr.ro a ∧ GExpr.ok a := (hty_Expr_aux h).1 rfl
theorem hty_ExprS {l : List AV} (h : HasTy tt 194 l) : ∃ x : List GExpr, l = [.ro 4 (GExpr.ros x)] ∧ x.length ≤ 9223372036854775807 ∧ ∀ y ∈ x, GExpr.ok y := (hty_Expr_aux h).2 rfl
theorem hty_Sect {l : List AV} (h : HasTy tt 196 l) : ∃ a : GSect, l = GSect.ro a ∧ GSect.ok a := by
  obtain ⟨hl, hf⟩ := hty_struct rfl rfl h
  obtain ⟨f0, h0, w0⟩ := hty_str rfl rfl (hf 0 0 9 _ rfl rfl)
  obtain ⟨f1, h1⟩ := hty_bool rfl rfl (hf 1 1 4 _ rfl rfl)
  obtain ⟨f2, h2, w2⟩ := hty_ExprS (hf 2 2 194 _ rfl rfl)
  exact ⟨⟨f0, f1, f2⟩, show l.drop 0 = _ from cut_cells 0 1 h0 _ (cut_cells 1 1 h1 _ (cut_cells 2 1 h2 _ (List.drop_eq_nil_of_le (Nat.le_of_eq hl)))), w0, trivial, w2⟩
theorem hty_SectS {l : List AV} (h : HasTy tt 54 l) : ∃ x : List GSect, l = [.ro 3 (GSect.ros x)] ∧ x.length ≤ 9223372036854775807 ∧ ∀ y ∈ x, GSect.ok y := by
  obtain ⟨rows, rfl, h1, h2⟩ := hty_slice rfl rfl rfl h
  obtain ⟨x, rfl, hx⟩ := rows_of (f := GSect.ro) (q := GSect.ok) rows (fun row hr => hty_Sect (h2 row hr))
  exact ⟨x, rfl, by rw [List.length_map] at h1; exact h1, hx⟩
theorem hty_Glob {l : List AV} (h : HasTy tt 201 l) : ∃ a : GGlob, l = GGlob.ro a ∧ GGlob.ok a := by
  obtain ⟨hl, hf⟩ := hty_struct rfl rfl h
  obtain ⟨f0, h0, w0⟩ := hty_str rfl rfl (hf 0 0 9 _ rfl rfl)
  obtain ⟨f1, h1, w1⟩ := hty_Expr (hf 1 1 199 _ rfl rfl)
  exact ⟨⟨f0, f1⟩, show l.drop 0 = _ from cut_cells 0 1 h0 _ (cut_cells 1 4 h1 _ (List.drop_eq_nil_of_le (Nat.le_of_eq hl))), w0, w1⟩
theorem hty_GlobS {l : List AV} (h : HasTy tt 55 l) : ∃ x : List GGlob, l = [.ro 5 (GGlob.ros x)] ∧ x.length ≤ 9223372036854775807 ∧ ∀ y ∈ x, GGlob.ok y := by
  obtain ⟨rows, rfl, h1, h2⟩ := hty_slice rfl rfl rfl h
  obtain ⟨x, rfl, hx⟩ := rows_of (f := GGlob.ro) (q := GGlob.ok) rows (fun row hr => hty_Glob (h2 row hr))
  exact ⟨x, rfl, by rw [List.length_map] at h1; exact h1, hx⟩
theorem hty_Obj {l : List AV} (h : HasTy tt 57 l) : ∃ a : GObj, l = GObj.ro a ∧ GObj.ok a := by
  obtain ⟨hl, hf⟩ := hty_struct rfl rfl h
  obtain ⟨f0, h0, w0⟩ := hty_SectS (hf 0 0 54 _ rfl rfl)
  obtain ⟨f1, h1, w1⟩ := hty_GlobS (hf 1 1 55 _ rfl rfl)
  exact ⟨⟨f0, f1⟩, show l.drop 0 = _ from cut_cells 0 1 h0 _ (cut_cells 1 1 h1 _ (List.drop_eq_nil_of_le (Nat.le_of_eq hl))), w0, w1⟩
theorem hty_LibMod {l : List AV} (h : HasTy tt 181 l) : ∃ a : GLibMod, l = GLibMod.ro a ∧ GLibMod.ok a := by
  obtain ⟨hl, hf⟩ := hty_struct rfl rfl h
  obtain ⟨f0, h0, w0⟩ := hty_str rfl rfl (hf 0 0 9 _ rfl rfl)
  obtain ⟨f1, h1, w1⟩ := hty_ByteS (hf 1 1 74 _ rfl rfl)
  exact ⟨⟨f0, f1⟩, show l.drop 0 = _ from cut_cells 0 1 h0 _ (cut_cells 1 1 h1 _ (List.drop_eq_nil_of_le (Nat.le_of_eq hl))), w0, w1⟩
theorem hty_LibModS {l : List AV} (h : HasTy tt 22 l) : ∃ x : List GLibMod, l = [.ro 2 (GLibMod.ros x)] ∧ x.length ≤ 9223372036854775807 ∧ ∀ y ∈ x, GLibMod.ok y := by
  obtain ⟨rows, rfl, h1, h2⟩ := hty_slice rfl rfl rfl h
  obtain ⟨x, rfl, hx⟩ := rows_of (f := GLibMod.ro) (q := GLibMod.ok) rows (fun row hr => hty_LibMod (h2 row hr))
  exact ⟨x, rfl, by rw [List.length_map] at h1; exact h1, hx⟩
theorem hty_Lib {l : List AV} (h : HasTy tt 24 l) : ∃ a : GLib, l = GLib.ro a ∧ GLib.ok a := by
  obtain ⟨hl, hf⟩ := hty_struct rfl rfl h
  obtain ⟨f0, h0, w0⟩ := hty_LibModS (hf 0 0 22 _ rfl rfl)
  exact ⟨⟨f0⟩, show l.drop 0 = _ from cut_cells 0 1 h0 _ (List.drop_eq_nil_of_le (Nat.le_of_eq hl)), w0⟩
end Go.Proofs.VI
