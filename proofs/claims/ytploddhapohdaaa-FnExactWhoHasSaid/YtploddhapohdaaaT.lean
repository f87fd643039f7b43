/- The table of types. -/
import Derived.Test.YtploddhapohdaaaChecked
import Derived.Test.YtploddhapohdaaaL5
set_option maxRecDepth 100000
namespace Go.Proofs.VI
open Go
def tree : TT := (.node 62 ⟨3, 48, [.str ⟨#[]⟩, .ff, .nils], .struct [(0, 9), (1, 4), (2, 60)], []⟩ (.node 27 ⟨1, 24, [.nils], .slice 5, []⟩ (.node 9 ⟨1, 16, [.str ⟨#[]⟩], .str, []⟩ (.node 4 ⟨1, 1, [.ff], .bool, []⟩ (.node 3 ⟨1, 8, [.int .i64 0], .int .i64, []⟩ (.node 2 ⟨1, 8, [.int .i64 0], .int .i64, []⟩ .nil .nil) .nil) (.node 5 ⟨1, 1, [.int .u8 0], .int .u8, []⟩ .nil .nil)) (.node 23 ⟨1, 24, [.nils], .slice 107, []⟩ (.node 22 ⟨1, 24, [.nils], .slice 102, []⟩ (.node 21 ⟨1, 4, [.int .i32 0], .int .i32, []⟩ .nil .nil) .nil) (.node 25 ⟨2, 48, [.nils, .nils], .struct [(0, 22), (1, 23)], []⟩ .nil .nil))) (.node 45 ⟨1, 24, [.nils], .struct [(0, 43)], []⟩ (.node 32 ⟨2, 48, [.nils, .nils], .struct [(0, 29), (1, 30)], []⟩ (.node 30 ⟨1, 24, [.nils], .slice 68, []⟩ (.node 29 ⟨1, 24, [.nils], .slice 62, []⟩ .nil .nil) .nil) (.node 43 ⟨1, 24, [.nils], .slice 125, []⟩ .nil .nil)) (.node 50 ⟨1, 24, [.nils], .struct [(0, 48)], []⟩ (.node 48 ⟨1, 24, [.nils], .slice 94, []⟩ .nil .nil) (.node 60 ⟨1, 24, [.nils], .slice 66, []⟩ .nil .nil)))) (.node 102 ⟨3, 48, [.str ⟨#[]⟩, .ff, .nils], .struct [(0, 9), (1, 4), (2, 100)], []⟩ (.node 87 ⟨1, 8, [.nilp], .ptr, []⟩ (.node 80 ⟨1, 8, [.nilp], .ptr, []⟩ (.node 68 ⟨5, 72, [.str ⟨#[]⟩, .int .i64 0, .int .i64 0, .str ⟨#[]⟩, .nils], .struct [(0, 9), (1, 66)], []⟩ (.node 66 ⟨4, 56, [.int .i64 0, .int .i64 0, .str ⟨#[]⟩, .nils], .struct [(0, 3), (1, 3), (2, 9), (3, 60)], []⟩ .nil .nil) .nil) (.node 82 ⟨3, 40, [.nils, .int .i64 0, .ff], .struct [(0, 27), (1, 3), (2, 4)], []⟩ .nil .nil)) (.node 94 ⟨2, 40, [.str ⟨#[]⟩, .nils], .struct [(0, 9), (1, 27)], []⟩ (.node 89 ⟨3, 40, [.nils, .int .i64 0, .ff], .struct [(0, 27), (1, 3), (2, 4)], []⟩ .nil .nil) (.node 100 ⟨1, 24, [.nils], .slice 105, []⟩ .nil .nil))) (.node 127 ⟨1, 24, [.nils], .slice 9, []⟩ (.node 110 ⟨1, 8, [.int .u64 0], .int .u64, []⟩ (.node 107 ⟨5, 72, [.str ⟨#[]⟩, .int .i64 0, .int .i64 0, .str ⟨#[]⟩, .nils], .struct [(0, 9), (1, 105)], []⟩ (.node 105 ⟨4, 56, [.int .i64 0, .int .i64 0, .str ⟨#[]⟩, .nils], .struct [(0, 3), (1, 3), (2, 9), (3, 100)], []⟩ .nil .nil) .nil) (.node 125 ⟨2, 40, [.str ⟨#[]⟩, .nils], .struct [(0, 9), (1, 27)], []⟩ .nil .nil)) (.node 164 ⟨1, 4, [.int .u32 0], .int .u32, []⟩ (.node 141 ⟨1, 24, [.nils], .slice 27, []⟩ .nil .nil) (.node 168 ⟨1, 8, [.nilp], .ptr, []⟩ .nil .nil)))))
abbrev tt : TypeId → Option TI := tree.get
theorem tok : TOk Try.prog tt := tok_of (by kernel_rfl)
theorem hm : Try.prog.follows .mixedOrders = true := by kernel_rfl
abbrev Con := Contract Try.prog
theorem conC (cut : Nat → Bool) {f : FuncId} {fn : Func} (hf : Try.prog.funcs[f]? = some fn) {args : List AV} {res : AV} {outs : List (Option AV)} (hk : ewpG Con tt cut fn args res outs) (hname : (fn.name == "runtime.NumGoroutine") = false := by kernel_rfl)
    (hc : (match fn.body with | some c => codeOk fn.ntmps (outsJ 0 outs) c | none => false) = true := by kernel_rfl) : Con f args res outs :=
  contract_of2 tok (fun _ _ _ _ h => h) hm hf hname hc hk
theorem con {f : FuncId} {fn : Func} (hf : Try.prog.funcs[f]? = some fn) {args : List AV} {res : AV} {outs : List (Option AV)} (hk : ewpG Con tt (fun _ => false) fn args res outs) (hname : (fn.name == "runtime.NumGoroutine") = false := by kernel_rfl)
    (hc : (match fn.body with | some c => codeOk fn.ntmps (outsJ 0 outs) c | none => false) = true := by kernel_rfl) : Con f args res outs :=
  conC _ hf hk hname hc
end Go.Proofs.VI
