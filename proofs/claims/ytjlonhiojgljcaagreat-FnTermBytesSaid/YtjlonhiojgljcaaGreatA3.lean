/- Contracts of functions, and what they rest on: l20b. -/
import Derived.Test.YtjlonhiojgljcaaGreatB4
set_option linter.unusedVariables false
set_option linter.unusedSimpArgs false
set_option maxRecDepth 10000
set_option maxHeartbeats 4000000
namespace Go.Proofs.VI
open Go
noncomputable def dec (p:Prop):Bool:=@decide p (Classical.propDecidable p)
theorem dec_true {p:Prop} (h:p):dec p=true:=@decide_eq_true p (Classical.propDecidable p) h
theorem dec_false {p:Prop} (h:¬ p):dec p=false:=@decide_eq_false p (Classical.propDecidable p) h
def sectAt (l:List GObj) (p:GPlaced):Option GSect:=
 if inI p.mod 0 (l.length - 1)=true then (match l[p.mod.toNat]? with
  | some o=>if inI p.sect 0 (o.sects.length - 1)=true then o.sects[p.sect.toNat]? else none
  | none=>none) else none
def lenOf (s:GSect):Int:=if s.over=true then 0 else 2*s.words.length
def lenAt (l:List GObj) (p:GPlaced):Int:=match sectAt l p with | some s=>lenOf s | none=>0
theorem sect_row {l:List GSect} {i:Nat} {o:GSect} (h:l[i]?=some o):(GSect.ros l)[i]?=some (GSect.ro o):=by simp[h]
def clash (l:List GObj) (x y:GPlaced):Bool:=decide (0 < lenAt l x)&&(decide (0 < lenAt l y)&&(decide (x.pos < IntKind.wrap .i64 (y.pos+lenAt l y))&&decide (y.pos < IntKind.wrap .i64 (x.pos+lenAt l x))))
noncomputable def apart (l:List GObj) (p:List GPlaced):Bool:=dec (∀ i (hi:i < p.length) k (hk:k < i),clash l p[i] p[k]=false)
theorem le_succ {q:Nat→Prop} {k:Nat} (h:∀ j,j < k→q j) (hk:q k):∀ j,j < k+1→q j:=fun j hj=>by
 rcases Nat.lt_succ_iff_lt_or_eq.1 hj with h3 | h3
 ·exact h j h3
 ·subst h3;exact hk
end Go.Proofs.VI
