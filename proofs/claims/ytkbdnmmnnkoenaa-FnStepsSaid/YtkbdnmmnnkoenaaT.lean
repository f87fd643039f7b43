/- The table of types. -/
import Derived.Test.YtkbdnmmnnkoenaaChecked
import Derived.Test.YtkbdnmmnnkoenaaL5
set_option maxRecDepth 100000
namespace Go.Proofs.VI
open Go
def tree : TT := (.node 32 ⟨9, 112, [.nils, .nils, .ff, .ff, .ff, .ff, .nils, .nils, .int .i64 0], .struct [(0, 25), (1, 25), (2, 4), (3, 4), (4, 4), (5, 4), (6, 25), (7, 25), (8, 3)], []⟩ (.node 21 ⟨1, 4, [.int .i32 0], .int .i32, []⟩ (.node 4 ⟨1, 1, [.ff], .bool, []⟩ (.node 3 ⟨1, 8, [.int .i64 0], .int .i64, []⟩ (.node 2 ⟨1, 8, [.int .i64 0], .int .i64, []⟩ .nil .nil) .nil) (.node 9 ⟨1, 16, [.str ⟨#[]⟩], .str, []⟩ (.node 5 ⟨1, 1, [.int .u8 0], .int .u8, []⟩ .nil .nil) .nil)) (.node 28 ⟨3, 24, [.int .i64 0, .int .i64 0, .int .i64 0], .struct [(0, 3), (1, 3), (2, 3)], [.int, .int, .int]⟩ (.node 25 ⟨1, 24, [.nils], .slice 3, []⟩ (.node 22 ⟨1, 24, [.nils], .slice 5, []⟩ .nil .nil) .nil) (.node 30 ⟨8, 64, [.int .i64 0, .int .i64 0, .int .i64 0, .int .i64 0, .int .i64 0, .int .i64 0, .int .i64 0, .int .i64 0], .struct [(0, 3), (1, 28), (4, 28), (7, 3)], []⟩ .nil .nil))) (.node 69 ⟨2, 16, [.int .i64 0, .int .i64 0], .struct [(0, 3), (1, 3)], [.int, .int]⟩ (.node 61 ⟨1, 8, [.nilp], .ptr, []⟩ (.node 59 ⟨1, 8, [.nilp], .ptr, []⟩ (.node 39 ⟨9, 112, [.nils, .nils, .ff, .ff, .ff, .ff, .nils, .nils, .int .i64 0], .struct [(0, 25), (1, 25), (2, 4), (3, 4), (4, 4), (5, 4), (6, 25), (7, 25), (8, 3)], []⟩ .nil .nil) .nil) (.node 66 ⟨1, 8, [.int .u64 0], .int .u64, []⟩ .nil .nil)) (.node 111 ⟨1, 4, [.int .u32 0], .int .u32, []⟩ (.node 84 ⟨1, 8, [.nilp], .ptr, []⟩ (.node 80 ⟨3, 40, [.nils, .int .i64 0, .int .i64 0], .struct [(0, 22), (1, 3), (2, 3)], []⟩ .nil .nil) .nil) (.node 115 ⟨1, 8, [.nilp], .ptr, []⟩ .nil .nil))))
abbrev tt : TypeId → Option TI := tree.get
theorem tok : TOk Try.prog tt := tok_of (by kernel_rfl)
theorem hm : Try.prog.follows .mixedOrders = true := by kernel_rfl
abbrev Con := Contract Try.prog
theorem conC (cut : Nat → Bool) {f : FuncId} {fn : Func} (hf : Try.prog.funcs[f]? = some fn) {args : List AV} {res : AV} {outs : List (Option AV)} (hk : ewpG Con tt cut fn args res outs) (hname : (fn.name == "runtime.NumGoroutine") = false := by kernel_rfl)
    (hc : (match fn.body with | some c => codeOk fn.ntmps (outsJ 0 outs) c | none => false) = true := by kernel_rfl) : Con f args res outs :=
  contract_of2 tok (fun _ _ _ _ h => h) hm hf hname hc hk
theorem con {f : FuncId} {fn : Func} (hf : Try.prog.funcs[f]? = some fn) {args : List AV} {res : AV} {outs : List (Option AV)} (hk : ewpG Con tt (fun _ => false) fn args res outs) (hname : (fn.name == "runtime.NumGoroutine") = false := by kernel_rfl)
    (hc : (match fn.body with | some c => codeOk fn.ntmps (outsJ 0 outs) c | none => false) = true := by kernel_rfl) : Con f args res outs :=
  conC _ hf hk hname hc
/-- With functions that are gone through in their place, and boxes whose rows get names ahead of a region. -/
theorem conI (inl : List (FuncId × Func)) (pre : Nat → Option (Nat × TypeId)) (cut : Nat → Bool) {f : FuncId} {fn : Func} (hf : Try.prog.funcs[f]? = some fn) {args : List AV} {res : AV} {outs : List (Option AV)} (hi : ∀ x ∈ inl, inlOk Try.prog x.1 x.2)
    (hk : ewpGI Con tt (fun f => (inl.find? (fun x => Nat.beq x.1 f)).map Prod.snd) pre cut fn args res outs) (hname : (fn.name == "runtime.NumGoroutine") = false := by kernel_rfl)
    (hc : (match fn.body with | some c => codeOk fn.ntmps (outsJ 0 outs) c | none => false) = true := by kernel_rfl) : Con f args res outs :=
  contract_of3 tok (fun _ _ _ _ h => h) (fun f fn h => by
    cases e : inl.find? (fun x => Nat.beq x.1 f) with
    | none => rw [e] at h; cases h
    | some x =>
      rw [e] at h
      injection h with h
      subst h
      have h1 := List.find?_some e
      have h2 := hi x (List.mem_of_find?_eq_some e)
      rwa [Nat.eq_of_beq_eq_true h1] at h2) hm hf hname hc hk
end Go.Proofs.VI
