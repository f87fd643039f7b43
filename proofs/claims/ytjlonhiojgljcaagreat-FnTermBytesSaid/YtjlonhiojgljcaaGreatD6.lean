/- Contracts of functions, and what they rest on: decode. -/
import Derived.Test.YtjlonhiojgljcaaGreatD1
import Derived.Test.YtjlonhiojgljcaaGreatT
set_option linter.unusedVariables false
set_option linter.unusedSimpArgs false
set_option maxRecDepth 10000
set_option maxHeartbeats 4000000
namespace Go.Proofs.VI
open Go
theorem args_cons {tt:TypeId→Option TI} {t:TypeId} {ts:List TypeId} {avs:List AV} {i:TI} (hi:tt t=some i) (h:HasArgs tt (t::ts) avs):∃ vs avs',avs=argAV i vs::avs'∧HasTy tt t vs∧HasArgs tt ts avs':=by
 obtain ⟨i',vs,a,rfl,h1,h2,h3⟩:=h
 rw[hi] at h1;injection h1 with h1;subst h1
 exact ⟨vs,a,rfl,h2,h3⟩
theorem u8_row {n:Int} (h:0≤n∧n≤255): [AV.int .u8 n]=GByte.ro (UInt8.ofNat n.toNat):=by
 rw[GByte.ro,UInt8.toNat_ofNat'];congr 2;omega
theorem hty_ByteS {l:List AV} (h:HasTy tt 74 l):∃ x:List GByte,l=[.ro 1 (GByte.ros x)]∧x.length≤9223372036854775807∧∀ y∈x,GByte.ok y:=by
 obtain ⟨rows,rfl,h1,h2⟩:=hty_slice rfl rfl rfl h
 obtain ⟨x,rfl,hx⟩:=rows_of (f:=GByte.ro) (q:=GByte.ok) rows (fun row hr=>(hty_int rfl rfl (h2 row hr)).elim fun n hn=>⟨UInt8.ofNat n.toNat,by rw[hn.1];exact u8_row (wfu8 hn.2),trivial⟩)
 exact ⟨x,rfl,by rw[List.length_map] at h1;exact h1,hx⟩
end Go.Proofs.VI
