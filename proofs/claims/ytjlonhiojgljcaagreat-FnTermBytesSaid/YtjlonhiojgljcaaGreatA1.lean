/- Contracts of functions, and what they rest on: l01. -/
import Derived.Test.YtjlonhiojgljcaaGreatD3
set_option linter.unusedVariables false
set_option linter.unusedSimpArgs false
set_option maxRecDepth 10000
set_option maxHeartbeats 4000000
namespace Go.Proofs.VI
open Go
def wr16 (n:Int):Int:=n % 65536
theorem and_mask (n:Int) (k:Nat) (hk:k≤62):bitsI .and .i64 n ((2 ^ k - 1:Nat):Int)=n % ((2 ^ k:Nat):Int):=by
 have hp:(2:Nat) ^ k≤2 ^ 62:=Nat.pow_le_pow_right (by decide) hk
 have h1:(BitVec.ofInt 64 n&&& BitVec.ofInt 64 ((2 ^ k - 1:Nat):Int)).toNat=(n % ((2 ^ k:Nat):Int)).toNat:=by
  rw[BitVec.toNat_and,BitVec.toNat_ofInt,BitVec.toNat_ofInt]
  have e2:(((2 ^ k - 1:Nat):Int) % ((2 ^ 64:Nat):Int)).toNat=2 ^ k - 1:=by
   rw[Int.emod_eq_of_lt (by omega) (by have:(2:Nat) ^ 62 < 2 ^ 64:=(by decide);omega)]
   omega
  rw[e2,Nat.and_two_pow_sub_one_eq_mod]
  have hdvd:(2:Nat) ^ k ∣ 2 ^ 64:=Nat.pow_dvd_pow 2 (by omega)
  have e3:((n % ((2 ^ 64:Nat):Int)).toNat % 2 ^ k:Nat)=((n % ((2 ^ 64:Nat):Int)) % ((2 ^ k:Nat):Int)).toNat:=by
   rw[Int.toNat_emod (Int.emod_nonneg _ (by decide)) (by omega)]
   rfl
  rw[e3,Int.emod_emod_of_dvd _ (by exact_mod_cast hdvd)]
 have h0:0≤n % ((2 ^ k:Nat):Int):=Int.emod_nonneg _ (by have:=Nat.two_pow_pos k;omega)
 have h2:n % ((2 ^ k:Nat):Int) < ((2 ^ k:Nat):Int):=Int.emod_lt_of_pos _ (by have:=Nat.two_pow_pos k;omega)
 have hp3:((2 ^ k:Nat):Int)≤4611686018427387904:=by
  have:(2:Nat) ^ 62=4611686018427387904:=by decide
  omega
 show IntKind.wrap .i64 ((BitVec.ofInt 64 n&&& BitVec.ofInt 64 ((2 ^ k - 1:Nat):Int)).toNat:Int)=_
 rw[h1,w64 (by omega) (by omega)]
 omega
theorem and_65535 (n:Int):bitsI .and .i64 n 65535=wr16 n:=and_mask n 16 (by decide)
theorem and_255 (n:Int):bitsI .and .i64 n 255=n % 256:=and_mask n 8 (by decide)
theorem shr_8 (n:Int):shrI .i64 n 8=n/256:=by
 show n.fdiv 256=n/256
 exact Int.fdiv_eq_ediv_of_nonneg _ (by decide)
theorem u8_mod (n:Int):IntKind.wrap .u8 n=n % 256:=rfl
def w8 (n:Int):UInt8:=UInt8.ofNat (n % 256).toNat
theorem w8_toNat (n:Int):((w8 n).toNat:Int)=n % 256:=by
 have h0:0≤n % 256:=Int.emod_nonneg _ (by decide)
 have h1:n % 256 < 256:=Int.emod_lt_of_pos _ (by decide)
 rw[w8,UInt8.toNat_ofNat']
 omega
def bW (n:Int):List UInt8:=[w8 n,w8 (n/256)]
theorem bW_len (n:Int):(bW n).length=2:=rfl
def bl (s:ByteArray):List UInt8:=s.data.toList
theorem bl_len (s:ByteArray):(bl s).length=s.size:=Array.length_toList
theorem bW_row (n:Int): [[AV.int .u8 (n % 256)],[AV.int .u8 (n/256 % 256)]]=GByte.ows (bW n):=by
 simp only[bW,List.map_cons,List.map_nil,GByte.ro,w8_toNat]
theorem wr_bytes (n:Int):wr16 n % 256=n % 256∧wr16 n/256 % 256=n/256 % 256:=by rw[wr16];omega
theorem byte_app (a b:List UInt8):GByte.ows a++GByte.ows b=GByte.ows (a++b):=List.map_append.symm
theorem byte_len (a:List UInt8):(GByte.ows a).length=a.length:=by simp
theorem byte_plain (a:List UInt8):plainRows (GByte.ows a):=by
 induction a with
 | nil=>trivial
 | cons x l ih=>exact ⟨⟨trivial,trivial⟩,ih⟩
def bT (s:ByteArray):List UInt8:=if 1000 < s.size then [] else bW s.size++bl s
theorem spec_Wrap (n:Int):Con 188 [.int .i64 n] (.int .i64 (wr16 n)) [none]:=by
 refine con Tryz.func188 ?_
 exact ⟨.of_eq (congrArg (AV.int .i64) (and_65535 n)),trivial⟩
abbrev GByteS.ro (x:List UInt8):List AV:=[.ro 1 (GByte.ros x)]
theorem impl_joined (l:List (List UInt8)) (hn:l.length≤1099511627776) (hl:l.flatten.length≤70368744177664):Con 109 [.ro 1 (l.map GByteS.ro)] (.ow 1 (GByte.ows l.flatten)) [none]:=by
 refine con Tryz.func109 ?_
 have hlen:(l.map GByteS.ro).length=l.length:=by simp
 refine ⟨{i:Nat // i≤l.length},fun i=>⟨[(3,.own 0),(7,.ro 1 (l.map GByteS.ro)),(8,.int .i64 l.length),(9,.int .i64 i.1)],[(0,.rows 1 (GByte.ows (l.take i.1).flatten) [])]⟩,fun i=>l.length - i.1,⟨0,by omega⟩,?_,?_⟩
 ·exact ⟨rfl,congrArg (AV.int .i64) (by rw[hlen]),rfl,rfl,.refl _,trivial⟩
 ·rintro ⟨i,hi⟩
  dsimp only
  refine ⟨fun h=>?_,fun h=>⟨.of_eq (congrArg (AV.ow 1) ?_),trivial⟩⟩<;>simp only[decide_eq_true_eq,decide_eq_false_iff_not] at h
  ·have hi:i < l.length:=by omega
   have e:(l.take (i+1)).flatten=(l.take i).flatten++l[i]:=by rw[List.take_add_one,List.getElem?_eq_getElem hi,List.flatten_append];simp
   have hle:(l.take (i+1)).flatten.length≤l.flatten.length:=by
    have:=congrArg List.length (congrArg List.flatten (List.take_append_drop (i+1) l))
    rw[List.flatten_append,List.length_append] at this
    omega
   rw[e,List.length_append] at hle
   refine ⟨Int.natCast_nonneg _,_,map_get _ _ hi,trivial,?_,byte_plain _,?_⟩
   ·show ((GByte.ows (l.take i).flatten).length+(GByte.ros l[i]).length)*1≤_
    rw[byte_len,byte_len];omega
   refine ⟨⟨i+1,by omega⟩,by dsimp only;omega,rfl,rfl,congrArg (AV.int .i64) (w64 (by omega) (by omega)),rfl,.of_eq ?_,trivial⟩
   dsimp only
   rw[e,←byte_app]
  ·rw[List.take_of_length_le (by omega)]
theorem impl_PutW (b:List UInt8) (n:Int) (hb:b.length≤70368744177000):Con 122 [.ro 1 (GByte.ros b),.int .i64 n] (.ow 1 (GByte.ows (b++bW n))) [none,none]:=by
 refine con Tryz.func122 ?_
 have e2:b++bW n=[b,bW n].flatten:=by simp
 rw[e2]
 refine ⟨by decide,[.ro],.ow 1 (GByte.ows [b,bW n].flatten),[none],?_,⟨GByte.nro _,trivial⟩,.refl _,trivial⟩
 have h:=impl_joined [b,bW n] (by simp) (by simp[bW];omega)
 simp only[and_255,shr_8,u8_mod,Int.emod_emod_of_dvd _ (Int.dvd_refl 256),bW_row]
 show Con _ [.ro 1 [[.ro 1 (toRoRows (GByte.ros b))],[.ro 1 (toRoRows (GByte.ows (bW n)))]]] _ _
 rw[GByte.ror,GByte.roo]
 exact h
theorem spec_PutW (b:List UInt8) (n:Int) (hb:b.length≤70368744177000):Con 127 [.ro 1 (GByte.ros b),.int .i64 n] (.ow 1 (GByte.ows (b++bW n))) [none,none]:=by
 refine con Tryz.func127 ?_
 refine ⟨[.ro],.int .i64 (wr16 n),[none],spec_Wrap n,trivial,trivial,?_,byte_plain b,by decide,trivial,?_,?_,.of_eq (congrArg (AV.ow 1) ?_),trivial⟩
 ·show (0+(GByte.ros b).length)*1≤_
  rw[byte_len];omega
 ·show (([]++GByte.ows b).length+2)*1≤_
  simp only[List.nil_append,byte_len];omega
 ·exact ⟨⟨trivial,trivial⟩,⟨trivial,trivial⟩,trivial⟩
 ·simp only[shr_8,u8_mod,wr_bytes]
  rw[bW_row,←byte_app];rfl
theorem impl_PutText (b:List UInt8) (s:ByteArray) (hb:b.length≤70368744170000) (hs:s.size≤9223372036854775807):Con 123 [.ro 1 (GByte.ros b),.str s] (.ow 1 (GByte.ows (b++bT s))) [none,none]:=by
 refine con Tryz.func123 ?_
 refine ⟨fun h=>?_,fun h=>?_⟩<;>simp only[decide_eq_true_eq,decide_eq_false_iff_not] at h
 ·have h:=impl_joined [b] (by simp) (by simp;omega)
  refine ⟨[.ro],.ow 1 (GByte.ows [b].flatten),[none],(by show Con _ [.ro 1 [[.ro 1 (toRoRows (GByte.ros b))]]] _ _;rw[GByte.ror];exact h),⟨GByte.nro _,trivial⟩,.of_eq (congrArg (AV.ow 1) ?_),trivial⟩
  rw[bT,if_pos (by omega)];simp
 ·refine ⟨[.ro,.ro],.ow 1 (GByte.ows (b++bW s.size)),[none,none],impl_PutW b s.size (by omega),trivial,?_⟩
  have h2:=impl_joined [b++bW s.size,bl s] (by simp) (by simp[bW,bl_len];omega)
  refine ⟨[.ro],.ow 1 (GByte.ows [b++bW s.size,bl s].flatten),[none],?_,⟨GByte.nro _,trivial⟩,.of_eq (congrArg (AV.ow 1) ?_),trivial⟩
  ·show Con _ [.ro 1 [[.ro 1 (toRoRows (GByte.ows (b++bW s.size)))],[.ro 1 (toRoRows (GByte.ows (bl s)))]]] _ _
   rw[GByte.roo,GByte.roo]
   exact h2
  ·rw[bT,if_neg (by omega)];simp
theorem spec_PutText (b:List UInt8) (s:ByteArray) (hb:b.length≤70368744170000) (hs:s.size≤9223372036854775807):Con 139 [.ro 1 (GByte.ros b),.str s] (.ow 1 (GByte.ows (b++bT s))) [none,none]:=by
 refine con Tryz.func139 ?_
 refine ⟨fun h=>?_,fun h=>?_⟩<;>simp only[decide_eq_true_eq,decide_eq_false_iff_not] at h
 ·refine ⟨trivial,?_,byte_plain b,.of_eq (congrArg (AV.ow 1) ?_),trivial⟩
  ·show (0+(GByte.ros b).length)*1≤_
   rw[byte_len];omega
  ·rw[bT,if_pos (by omega),List.append_nil];rfl
 ·refine ⟨[.ro,.ro],.ow 1 (GByte.ows (b++bW s.size)),[none,none],spec_PutW b s.size (by omega),trivial,trivial,?_,.of_eq (congrArg (AV.ow 1) ?_),trivial⟩
  ·show ((GByte.ows (b++bW s.size)).length+s.size)*1≤_
   rw[byte_len];simp[bW];omega
  ·rw[bT,if_neg (by omega),←List.append_assoc,←byte_app (b++bW s.size)];rfl
end Go.Proofs.VI
