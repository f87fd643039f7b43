/- For all lists of tokens, FnExactArgsOf returns true, and leaves its argument as it was; no further conditions. -/
import Derived.Test.YtfhjbgicfchfkaaC6
import Derived.Test.YtfhjbgicfchfkaaRows
import Derived.WalkKit
import Derived.ProofKit
import Derived.OpenShut
set_option linter.unusedVariables false
set_option linter.unusedSimpArgs false
set_option maxRecDepth 10000
namespace Go.Proofs.VI
open Go
def Tok.ok (t : Tok) : Prop := (-9223372036854775808 ≤ t.k ∧ t.k ≤ 9223372036854775807) ∧ (-9223372036854775808 ≤ t.n ∧ t.n ≤ 9223372036854775807) ∧ t.s.size ≤ 9223372036854775807
theorem hty_tok {l : List AV} (h : HasTy tt 80 l) : ∃ t : Tok, l = t.ro ∧ t.ok := by
  obtain ⟨hl, hf⟩ := hty_struct rfl rfl h
  obtain ⟨k, h0, w0⟩ := hty_int rfl rfl (hf 0 0 3 _ rfl rfl)
  obtain ⟨n, h1, w1⟩ := hty_int rfl rfl (hf 1 1 3 _ rfl rfl)
  obtain ⟨s, h2, w2⟩ := hty_str rfl rfl (hf 2 2 9 _ rfl rfl)
  exact ⟨⟨k, n, s⟩, show l.drop 0 = _ from (cut_cells 0 1 h0 _ (cut_cells 1 1 h1 _ (cut_cells 2 1 h2 _ (List.drop_eq_nil_of_le (Nat.le_of_eq hl))))), wf64 w0, wf64 w1, w2⟩
theorem hty_toks {l : List AV} (h : HasTy tt 22 l) : ∃ x : List Tok, l = [.ro 3 (x.map Tok.ro)] ∧ x.length ≤ 9223372036854775807 ∧ ∀ t ∈ x, t.ok := by
  obtain ⟨rows, rfl, h1, h2⟩ := hty_slice rfl rfl rfl h
  obtain ⟨x, rfl, hx⟩ := rows_of (f := Tok.ro) (q := Tok.ok) rows fun row hr => hty_tok (h2 row hr)
  exact ⟨x, rfl, by rw [List.length_map] at h1; exact h1, hx⟩
theorem args_cons {tt : TypeId → Option TI} {t : TypeId} {ts : List TypeId} {avs : List AV} {i : TI} (hi : tt t = some i) (h : HasArgs tt (t :: ts) avs) : ∃ vs avs', avs = argAV i vs :: avs' ∧ HasTy tt t vs ∧ HasArgs tt ts avs' := by
  obtain ⟨i', vs, a, rfl, h1, h2, h3⟩ := h
  rw [hi] at h1; injection h1 with h1; subst h1
  exact ⟨vs, a, rfl, h2, h3⟩
end Go.Proofs.VI
namespace Go.Proofs.Ytfhjbgicfchfkaa.fnExactArgsOf
open Go.ChangeShapes Go.WideShapes Go.ChangeAt Go.RowKit Go.Proofs.VI
theorem own : ownKnob Try.prog.godebug = none := by kernel_rfl
theorem contract (H : Type) (enc : TypeId × Value → H) (W : World) (base : Nat) (args : Array Value) (ds gs : List (DataW H)) (before : List MemPlace)
    (hval : ∀ (j : Nat) t v, Try.f3.params[j]? = some t → args[j]? = some v → Value.okWide Try.prog W .any base t v)
    (hW : DataW.Whole enc Try.prog Try.f3.params.toList Rows.fnExactArgsOfSpec.vars false W args.toList ds gs before) :
    Calls Try.prog 3 args W fun e W' => ∃ v, e = .returned v ∧ Rows.fnExactArgsOfSpec.post enc Try.prog Try.f3 false true false false W args v W' := by
  refine law_contract (S := [3, 9, 22, 80]) (tb := 4) (ts := [22]) tok (by kernel_rfl) Try.func3 rfl (by kernel_rfl) rfl (by kernel_rfl) rfl (by decide) (by kernel_rfl) (by decide +kernel) ?_ rfl ?_ enc W base args ds gs before hval hW
  · intro avs h
    obtain ⟨vs, _, rfl, ht, rfl⟩ := args_cons (i := ⟨1, 24, [.nils], .slice 80, []⟩) rfl h
    obtain ⟨l, rfl, hl, hx⟩ := hty_toks ht
    exact ⟨_, lawArgsOf_ok l hl fun t ht => (hx t ht).2.2⟩
  · intro ds hd
    match ds, hd with
    | [d], _ => rfl
set_option maxRecDepth 10000
theorem lifted (os : Os) (started : os.Started) (H : Type) (enc : TypeId × Value → H) :
    ReturnsInHanded {} Try.checked os 3 .any (Rows.fnExactArgsOfSpec.pre6 enc Try.prog Try.f3 Rows.fnExactArgsOfRow.domain false) (Rows.fnExactArgsOfSpec.post enc Try.prog Try.f3 false true false false) := by
  refine returnsInHanded_of_change (C := Try.checked) own started (by kernel_rfl) Try.func3
    (ChangeSpec.witness6 (enc := enc) (C := Try.checked) false ⟨#[], #[.slice none 0 0], []⟩ 8 (by kernel_rfl) (by kernel_rfl) (by kernel_rfl) (by kernel_rfl)) ?_
  intro W base args ds gs before hval hW _ _
  exact contract H enc W base args ds gs before hval hW
theorem over : Rows.fnExactArgsOfRow.holds Try.pinned (OpenSpec.ofChange Rows.fnExactArgsOfSpec) :=
  OpenClaim.holds_of_wide 3 Try.f3 rfl rfl rfl rfl rfl rfl rfl ⟨rfl, rfl, rfl, rfl, rfl⟩ rfl rfl rfl rfl rfl (by kernel_rfl) Try.func3 (by kernel_rfl)
    (of_decide_eq_true (by kernel_rfl)) (by unfold Func.isWrapper; first | (rw [if_pos (by decide +kernel)]; kernel_rfl) | (rw [if_neg (by decide +kernel)]; exact ⟨rfl, rfl⟩))
    (fun os started H enc _ => lifted os started H enc)
theorem proved : Rows.FnExactArgsOfSaid := over
end Go.Proofs.Ytfhjbgicfchfkaa.fnExactArgsOf

