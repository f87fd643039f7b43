/- Contracts of functions, and what they rest on: l09oct l09lex. -/
import Derived.Test.YtjlonhiojgljcaaGreatF4
import Derived.Test.YtjlonhiojgljcaaGreatA5
import Derived.Test.YtjlonhiojgljcaaGreatA8
import Derived.Test.YtjlonhiojgljcaaGreatH4
set_option linter.unusedVariables false
set_option linter.unusedSimpArgs false
set_option maxRecDepth 10000
set_option maxHeartbeats 4000000
namespace Go.Proofs.VI
open Go
def dgt (n:Int):UInt8:=w8 (48+n % 8)
def octGo:Nat→Int→List UInt8→List UInt8
 | 0,_,acc=>acc
 | f+1,n,acc=>if 7 < n then octGo f (n/8) (dgt (n/8)::acc) else acc
def octV (n:Int):ByteArray:=bytes (octGo 6 (wr16 n) [dgt (wr16 n)])
theorem and7 (n:Int):bitsI .and .i64 n 7=n % 8:=and_mask n 3 (by decide)
theorem shr3 (n:Int):shrI .i64 n 3=n/8:=by
 show n.fdiv 8=n/8
 exact Int.fdiv_eq_ediv_of_nonneg _ (by decide)
theorem dgt_row (n:Int) (h0:0≤n): [[AV.int .u8 (IntKind.wrap .u8 (IntKind.wrap .i64 (48+bitsI .and .i64 n 7)))]]=GByte.ros [dgt n]:=by
 rw[and7,w64 (by omega) (by omega),u8_mod]
 show _=[[AV.int .u8 ((w8 (48+n % 8)).toNat:Int)]]
 rw[w8_toNat]
theorem dgt_bytes (n:Int) (h0:0≤n):isBytes [[AV.int .u8 (IntKind.wrap .u8 (IntKind.wrap .i64 (48+bitsI .and .i64 n 7)))]]:=by rw[dgt_row n h0];exact isBytes_ros _
theorem dgt_str (n:Int) (h0:0≤n):rowsStr [[AV.int .u8 (IntKind.wrap .u8 (IntKind.wrap .i64 (48+bitsI .and .i64 n 7)))]]=bytes [dgt n]:=by rw[dgt_row n h0,rowsStr_ros]
theorem dgt_bytes3 (n:Int) (h0:0≤n):isBytes [[AV.int .u8 (IntKind.wrap .u8 (IntKind.wrap .i64 (48+bitsI .and .i64 (shrI .i64 n 3) 7)))]]:=by rw[shr3];exact dgt_bytes _ (by omega)
theorem dgt_str3 (n:Int) (h0:0≤n) (acc:List UInt8):rowsStr [[AV.int .u8 (IntKind.wrap .u8 (IntKind.wrap .i64 (48+bitsI .and .i64 (shrI .i64 n 3) 7)))]]++bytes acc=bytes (dgt (n/8)::acc):=by
 rw[shr3,dgt_str _ (by omega),bytes_append];rfl
theorem spec_Oct (n:Int):Con 350 [.int .i64 n] (.str (octV n)) [none]:=by
 have hw:=wr16_in n
 refine con Tryz.func350 ?_
 refine ⟨[.ro],.int .i64 (wr16 n),[none],spec_Wrap n,trivial,?_⟩
 rw[octV]
 generalize wr16 n=m at*
 refine ⟨rfl,dgt_bytes m hw.1,?_⟩
 have e6:((8 ^ 6:Nat):Int)=262144:=by decide
 refine ⟨{t:Nat×Int×List UInt8 // 0≤t.2.1∧t.2.1 < ((8 ^ t.1:Nat):Int)∧octGo t.1 t.2.1 t.2.2=octGo 6 m [dgt m]∧t.2.2.length+t.1=7},fun t=>⟨[(0,.int .i64 t.1.2.1),(3,.str (bytes t.1.2.2))],[]⟩,fun t=>t.1.1,⟨(6,m,[dgt m]),hw.1,by show m < ((8 ^ 6:Nat):Int);omega,rfl,rfl⟩,?_,?_⟩
 ·exact ⟨rfl,congrArg AV.str (dgt_str m hw.1),trivial⟩
 ·rintro ⟨⟨f,k,acc⟩,h0,h1,h2,h9⟩
  dsimp only at h0 h1 h2 h9⊢
  refine ⟨fun h=>?_,fun h=>?_⟩<;>simp only[decide_eq_true_eq,decide_eq_false_iff_not] at h
  ·obtain ⟨g,rfl⟩:∃ g,f=g+1:=by
    cases f with
    | zero=>simp at h1;omega
    | succ g=>exact ⟨g,rfl⟩
   rw[octGo,if_pos h] at h2
   have h3:k/8 < ((8 ^ g:Nat):Int):=by
    rw[Nat.pow_succ] at h1
    push_cast at h1⊢
    omega
   refine ⟨by decide,rfl,dgt_bytes3 k h0,?_⟩
   exact ⟨by rw[shr3,dgt_str _ (by omega),bytes_size,bytes_size,List.length_singleton];show 1+acc.length≤_;omega,⟨(g,k/8,dgt (k/8)::acc),by dsimp only;omega,h3,h2,by rw[List.length_cons];omega⟩,Nat.lt_succ_self _,congrArg (AV.int .i64) (shr3 k),congrArg AV.str (dgt_str3 k h0 acc),trivial⟩
  ·refine ⟨.of_eq (congrArg AV.str ?_),trivial⟩
   rw[←h2]
   cases f with
   | zero=>rfl
   | succ g=>rw[octGo,if_neg h]
def octDig (s:ByteArray) (i:Nat):Bool:=inI (byteAt s i) 48 55
def poctN (s:ByteArray):Nat→Int
 | 0=>0
 | i+1=>poctN s i*8+(byteAt s i - 48)
def poctV (s:ByteArray):Option Int:=if s.size≤6 then (if (List.range s.size).all (octDig s)=true then (if 65535 < poctN s s.size then none else if octV (poctN s s.size)=s then some (poctN s s.size) else none) else none) else none
theorem poctN_in (s:ByteArray):∀ i,i≤6→(∀ j,j < i→octDig s j=true)→0≤poctN s i∧poctN s i < ((8 ^ i:Nat):Int)
 | 0,_,_=>by simp[poctN]
 | i+1,h,hd=>by
  have ih:=poctN_in s i (by omega) fun j hj=>hd j (by omega)
  have hi:=inI_true.1 (hd i (by omega))
  rw[poctN,Nat.pow_succ]
  push_cast at ih⊢
  omega
theorem octV_zero:(octV 0).size=1:=by decide
theorem spec_ParseOct (s:ByteArray) (hs:s.size≤9223372036854775807):Con 341 [.str s] (gI (poctV s)) [none]:=by
 refine con Tryz.func341 ?_
 refine ⟨{i:Nat // i≤s.size∧(s.size≤6∨i=0)∧∀ j,j < i→octDig s j=true},fun i=>⟨[(0,.str s),(4,.int .i64 (poctN s i.1)),(5,.int .i64 i.1)],[]⟩,fun i=>s.size - i.1,⟨0,Nat.zero_le _,.inr rfl,fun j h=>by omega⟩,?_,?_⟩
 ·exact ⟨rfl,rfl,rfl,trivial⟩
 ·rintro ⟨i,hi,h6,hd⟩
  dsimp only
  refine ⟨fun h=>⟨fun h2=>?_,fun h2=>?_⟩,fun h=>?_⟩<;>simp only[decide_eq_true_eq,decide_eq_false_iff_not] at h
  ·have h2:s.size≤6:=by simp only[decide_eq_true_eq] at h2;omega
   have hi:i < s.size:=by omega
   have hb:=byteAt_in s i
   have hn:=poctN_in s i (by omega) hd
   have hp:((8 ^ i:Nat):Int)≤262144:=by
    have:8 ^ i≤8 ^ 6:=Nat.pow_le_pow_right (by decide) (by omega)
    have e:(8 ^ 6:Nat)=262144:=by decide
    omega
   have e1:IntKind.wrap .i64 (byteAt s i)=byteAt s i:=w64 (by omega) (by omega)
   refine ⟨Int.natCast_nonneg _,h,[.ro,.ro,.ro],.bool (octDig s i),[none,none,none],by rw[e1];exact spec_l1In _ 48 55,trivial,fun h3=>?_,fun h3=>?_⟩<;>simp only[Bool.not_eq_true',Bool.not_eq_false'] at h3
   ·refine ⟨.of_eq ?_,trivial⟩
    rw[poctV,if_pos h2,if_neg (by rw[List.all_eq_false.2 ⟨i,by simpa using hi,by simpa using h3⟩];decide)];rfl
   ·have h4:=inI_true.1 h3
    refine ⟨Int.natCast_nonneg _,h,⟨i+1,hi,.inl h2,fun j hj=>?_⟩,Nat.sub_succ_lt_self _ _ hi,rfl,congrArg (AV.int .i64) ?_,congrArg (AV.int .i64) (w64 (by omega) (by omega)),trivial⟩
    ·rcases Nat.lt_succ_iff_lt_or_eq.1 hj with h5 | h5
     ·exact hd j h5
     ·subst h5;exact h3
    ·rw[u8_mod,w64 (x:=(byteAt s i - 48) % 256) (by omega) (by omega),w64 (x:=poctN s i*8) (by omega) (by omega),w64 (by omega) (by omega),poctN]
     omega
  ·have h2:¬ s.size≤6:=by simp only[decide_eq_false_iff_not] at h2;omega
   have i0:i=0:=by omega
   subst i0
   have hr:poctV s=none:=by rw[poctV,if_neg h2]
   rw[hr]
   refine ⟨fun h3=>⟨[.ro],.str (octV 0),[none],spec_Oct 0,trivial,fun h4=>?_,fun h4=>?_⟩,fun h3=>absurd (show (65535:Int) < 0 from of_decide_eq_true h3) (by decide)⟩
   ·exact ⟨.refl _,trivial⟩
   ·exfalso
    have e:octV 0=s:=by simpa using h4
    rw[←e,octV_zero] at h2
    exact h2 (by decide)
  ·have hi:i=s.size:=by omega
   subst hi
   by_cases h2:s.size≤6
   ·have ha:(List.range s.size).all (octDig s)=true:=List.all_eq_true.2 fun j hj=>hd j (by have:=List.mem_range.1 hj;omega)
    have hr:poctV s=if 65535 < poctN s s.size then none else if octV (poctN s s.size)=s then some (poctN s s.size) else none:=by rw[poctV,if_pos h2,if_pos ha]
    rw[hr]
    refine ⟨fun h3=>⟨[.ro],.str (octV (poctN s s.size)),[none],spec_Oct _,trivial,fun h4=>?_,fun h4=>?_⟩,fun h3=>?_⟩
    ·have h4:¬ octV (poctN s s.size)=s:=by simpa using h4
     rw[if_neg (of_decide_eq_false h3),if_neg h4]
     exact ⟨.refl _,trivial⟩
    ·have h4:octV (poctN s s.size)=s:=by simpa using h4
     rw[if_neg (of_decide_eq_false h3),if_pos h4]
     exact ⟨.refl _,trivial⟩
    ·rw[if_pos (of_decide_eq_true h3)]
     exact ⟨.refl _,trivial⟩
   ·have i0:s.size=0:=by omega
    omega
def runC (s:ByteArray) (l:Bool) (i:Nat):Bool:=inI (byteAt s i) 48 57||(l&&small s i)
def runG (s:ByteArray) (l:Bool):Nat→Nat→Nat
 | 0,i=>i
 | f+1,i=>if i < s.size∧runC s l i=true then runG s l f (i+1) else i
def runV (s:ByteArray) (l:Bool) (i:Nat):Nat:=runG s l (s.size - i) i
theorem runV_yes (s:ByteArray) (l:Bool) (i:Nat) (h:i < s.size) (hc:runC s l i=true):runV s l i=runV s l (i+1):=by
 rw[runV,show s.size - i=(s.size - (i+1))+1 by omega,runG,if_pos ⟨h,hc⟩,runV]
theorem runV_no (s:ByteArray) (l:Bool) (i:Nat) (h:¬ (i < s.size∧runC s l i=true)):runV s l i=i:=by
 rw[runV]
 cases s.size - i with
 | zero=>rfl
 | succ f=>rw[runG,if_neg h]
theorem runV_le (s:ByteArray) (l:Bool):∀ (n i:Nat),s.size - i=n→i≤s.size→i≤runV s l i∧runV s l i≤s.size:=by
 intro n
 induction n with
 | zero=>intro i h1 h2;rw[runV_no s l i (by omega)];omega
 | succ n ih=>
  intro i h1 h2
  by_cases h:i < s.size∧runC s l i=true
  ·rw[runV_yes s l i h.1 h.2]
   have:=ih (i+1) (by omega) (by omega)
   omega
  ·rw[runV_no s l i h];omega
theorem runV_lt {s:ByteArray} {l:Bool} {i:Nat} (h:i < s.size) (hc:runC s l i=true):i < runV s l i:=by
 rw[runV_yes s l i h hc]
 have:=(runV_le s l _ (i+1) rfl (by omega)).1
 omega
theorem spec_l9Run (s:ByteArray) (p:Nat) (l:Bool) (hp:p≤s.size) (hs:s.size≤9223372036854775807):Con 339 [.str s,.int .i64 p,.bool l] (.int .i64 (runV s l p)) [none,none,none]:=by
 refine con Tryz.func339 ?_
 refine ⟨{i:Nat // i≤s.size∧runV s l i=runV s l p},fun i=>⟨[(0,.str s),(1,.int .i64 i.1),(2,.bool l)],[]⟩,fun i=>s.size - i.1,⟨p,hp,rfl⟩,?_,?_⟩
 ·exact ⟨rfl,rfl,rfl,trivial⟩
 ·rintro ⟨i,hi,ha⟩
  dsimp only
  have hb:=byteAt_in s i
  have stop (h:¬ (i < s.size∧runC s l i=true)):(i:Int)=(runV s l p:Nat):=by rw[←ha,runV_no s l i h]
  have go (h:i < s.size) (hc:runC s l i=true):i+1≤s.size∧runV s l (i+1)=runV s l p:=⟨h,by rw[←runV_yes s l i h hc];exact ha⟩
  refine ⟨fun h=>?_,fun h=>?_⟩<;>simp only[decide_eq_true_eq,decide_eq_false_iff_not] at h
  ·have hi:i < s.size:=by omega
   have cD:=spec_l9Digit (byteAt s i) hb.1 hb.2
   have cS:=spec_l9Small (byteAt s i) hb.1 hb.2
   refine ⟨Int.natCast_nonneg _,h,[.ro],.bool (inI (byteAt s i) 48 57),[none],cD,trivial,fun h1=>⟨fun h2=>⟨Int.natCast_nonneg _,h,[.ro],.bool (small s i),[none],cS,trivial,fun h3=>?_,fun h3=>?_⟩,fun h2=>?_⟩,fun h1=>?_⟩
   ·exact ⟨⟨i+1,go hi (by rw[runC,h2,h3];simp)⟩,Nat.sub_succ_lt_self _ _ hi,rfl,congrArg (AV.int .i64) (w64 (by omega) (by omega)),rfl,trivial⟩
   ·exact ⟨.of_eq (congrArg (AV.int .i64) (stop fun g=>by rw[runC,h3] at g;simp_all)),trivial⟩
   ·exact ⟨.of_eq (congrArg (AV.int .i64) (stop fun g=>by rw[runC,h2] at g;simp_all)),trivial⟩
   ·exact ⟨⟨i+1,go hi (by rw[runC];simp_all)⟩,Nat.sub_succ_lt_self _ _ hi,rfl,congrArg (AV.int .i64) (w64 (by omega) (by omega)),rfl,trivial⟩
  ·exact ⟨.of_eq (congrArg (AV.int .i64) (stop (by omega))),trivial⟩
def wordV (s:ByteArray):GToken:=if kept s=true then ⟨5,0,s⟩ else ⟨1,0,s⟩
def mrks:ByteArray:=⟨#[58,61,44,40,41,43,45,42,47,38,124,35,64,46,60,62]⟩
def markV (s:ByteArray):Bool:=(List.range 16).any fun i=>decide (s=mrks.extract i (i+1))
def dotV (s:ByteArray):Bool:=decide (1 < s.size)&&(decide (byteAt s 0=46)&&form (s.extract 1 s.size))
def tokE (t:GToken):Bool:=if t.k=2 then inI t.n 0 65535&&decide (t.s=⟨#[]⟩) else if t.n≠0 then false else if t.k=1 then isNm t.s else if t.k=3 then dotV t.s else if t.k=4 then markV t.s else if t.k=5 then kept t.s else false
theorem kept_place (s:ByteArray):decide (0≤placeOf (keptWords++regNames) s)=kept s:=placeOf_any _ s
theorem spec_l9Word (s:ByteArray):Con 340 [.str s] (.agg (GToken.ro (wordV s))) [none]:=by
 refine con Tryz.func340 ?_
 refine ⟨[],.ow 1 (GString.ows (keptWords++regNames)),[],spec_l9Kept,trivial,?_⟩
 refine ⟨[.ro,.ro],.int .i64 (placeOf (keptWords++regNames) s),[none,none],by rw[GString.roo];exact spec_l9At _ s (by decide),⟨trivial,trivial⟩,fun h=>?_,fun h=>?_⟩<;>rw[kept_place] at h
 ·rw[wordV,if_pos h];exact ⟨.refl _,trivial⟩
 ·rw[wordV,if_neg (by rw[h];decide)];exact ⟨.refl _,trivial⟩
theorem spec_l9Mark (s:ByteArray):Con 342 [.str s] (.bool (markV s)) [none]:=by
 refine con Tryz.func342 ?_
 refine ⟨{i:Nat // i≤16∧∀ j,j < i→¬ s=mrks.extract j (j+1)},fun i=>⟨[(0,.str s),(3,.int .i64 i.1)],[]⟩,fun i=>16 - i.1,⟨0,Nat.zero_le _,fun j h=>by omega⟩,?_,?_⟩
 ·exact ⟨rfl,rfl,trivial⟩
 ·rintro ⟨i,hi,hd⟩
  dsimp only
  refine ⟨fun h=>?_,fun h=>?_⟩<;>simp only[decide_eq_true_eq,decide_eq_false_iff_not] at h
  ·have hi:i < 16:=by omega
   have e1:IntKind.wrap .i64 ((i:Int)+1)=((i+1:Nat):Int):=w64 (by omega) (by omega)
   refine ⟨Int.natCast_nonneg _,by rw[e1];omega,by rw[e1];show ((i+1:Nat):Int)≤16;omega,fun h2=>?_,fun h2=>?_⟩<;>rw[e1,Int.toNat_natCast,Int.toNat_natCast] at h2
   ·refine ⟨.of_eq (congrArg AV.bool ?_),trivial⟩
    exact (List.any_eq_true.2 ⟨i,List.mem_range.2 hi,h2⟩).symm
   ·refine ⟨⟨i+1,hi,fun j hj=>?_⟩,Nat.sub_succ_lt_self _ _ hi,rfl,congrArg (AV.int .i64) e1,trivial⟩
    rcases Nat.lt_succ_iff_lt_or_eq.1 hj with h5 | h5
    ·exact hd j h5
    ·subst h5;exact of_decide_eq_false h2
  ·refine ⟨.of_eq (congrArg AV.bool ?_),trivial⟩
   refine (List.any_eq_false.2 fun j hj=>?_).symm
   have:=hd j (by have:=List.mem_range.1 hj;omega)
   simpa using this
theorem spec_TokenOk (t:GToken) (hs:t.s.size≤9223372036854775807):Con 328 [.agg (GToken.ro t)] (.bool (tokE t)) [none]:=by
 refine con Tryz.func328 ?_
 refine ⟨fun h=>?_,fun h=>?_⟩
 ·have h:=of_decide_eq_true h
  rw[tokE,if_pos h]
  refine ⟨[.ro,.ro,.ro],.bool (inI t.n 0 65535),[none,none,none],spec_l1In _ 0 65535,trivial,fun h2=>?_,fun h2=>?_⟩
  ·exact ⟨.of_eq (congrArg AV.bool (by rw[h2];rfl)),trivial⟩
  ·exact ⟨.of_eq (congrArg AV.bool (by rw[h2];rfl)),trivial⟩
 ·have h:=of_decide_eq_false h
  rw[tokE,if_neg h]
  refine ⟨fun h2=>?_,fun h2=>?_⟩
  ·have h2:t.n≠0:=by simpa using h2
   rw[if_pos h2];exact ⟨.refl _,trivial⟩
  ·have h2:¬ t.n≠0:=by simpa using h2
   rw[if_neg h2]
   refine ⟨fun h3=>?_,fun h3=>⟨fun h4=>?_,fun h4=>⟨fun h5=>?_,fun h5=>⟨fun h6=>?_,fun h6=>?_⟩⟩⟩⟩
   ·have h3:=of_decide_eq_true h3
    rw[if_pos h3]
    exact ⟨[.ro],.bool (isNm t.s),[none],spec_l9Name t.s hs,trivial,.refl _,trivial⟩
   ·have h3:=of_decide_eq_false h3
    have h4:=of_decide_eq_true h4
    rw[if_neg h3,if_pos h4,dotV]
    refine ⟨fun a=>⟨by decide,by have:=of_decide_eq_true a;omega,fun b=>⟨by decide,?_,[.ro],.bool (form (t.s.extract 1 t.s.size)),[none],spec_l9Form _ (by rw[ByteArray.size_extract];omega),trivial,?_⟩,fun b=>?_⟩,fun a=>?_⟩
    ·have:=of_decide_eq_true a;omega
    ·exact ⟨.of_eq (congrArg AV.bool (by rw[show decide (1 < t.s.size)=true from decide_eq_true (by have:=of_decide_eq_true a;omega),b];rfl)),trivial⟩
    ·exact ⟨.of_eq (congrArg AV.bool (by rw[b];simp)),trivial⟩
    ·exact ⟨.of_eq (congrArg AV.bool (by rw[show decide (1 < t.s.size)=false from decide_eq_false (by have:=of_decide_eq_false a;omega)];rfl)),trivial⟩
   ·have h3:=of_decide_eq_false h3
    have h4:=of_decide_eq_false h4
    have h5:=of_decide_eq_true h5
    rw[if_neg h3,if_neg h4,if_pos h5]
    exact ⟨[.ro],.bool (markV t.s),[none],spec_l9Mark t.s,trivial,.refl _,trivial⟩
   ·have h3:=of_decide_eq_false h3
    have h4:=of_decide_eq_false h4
    have h5:=of_decide_eq_false h5
    have h6:=of_decide_eq_true h6
    rw[if_neg h3,if_neg h4,if_neg h5,if_pos h6]
    refine ⟨[],.ow 1 (GString.ows (keptWords++regNames)),[],spec_l9Kept,trivial,?_⟩
    refine ⟨[.ro,.ro],.int .i64 (placeOf (keptWords++regNames) t.s),[none,none],by rw[GString.roo];exact spec_l9At _ t.s (by decide),⟨trivial,trivial⟩,by kernel_rfl,.of_eq (congrArg AV.bool (kept_place t.s)),trivial⟩
   ·have h3:=of_decide_eq_false h3
    have h4:=of_decide_eq_false h4
    have h5:=of_decide_eq_false h5
    have h6:=of_decide_eq_false h6
    rw[if_neg h3,if_neg h4,if_neg h5,if_neg h6]
    exact ⟨.refl _,trivial⟩
def oneV (s:ByteArray) (p:Nat):GToken×Nat:=
 if small s p=true then (wordV (s.extract p (runV s true p)),runV s true p)
 else if inI (byteAt s p) 48 57=true then (⟨2,(poctV (s.extract p (runV s false p))).getD (-1),⟨#[]⟩⟩,runV s false p)
 else if byteAt s p=46∧p+1 < s.size∧small s (p+1)=true then (⟨3,0,s.extract p (runV s true (p+1))⟩,runV s true (p+1))
 else (⟨4,0,s.extract p (p+1)⟩,p+1)
theorem oneV_at {s:ByteArray} {p:Nat} (h:p < s.size):p < (oneV s p).2∧(oneV s p).2≤s.size:=by
 rw[oneV]
 split
 ·rename_i h1
  exact ⟨runV_lt h (by rw[runC,h1];simp),(runV_le s true _ p rfl (by omega)).2⟩
 ·split
  ·rename_i h1
   exact ⟨runV_lt h (by rw[runC,h1];rfl),(runV_le s false _ p rfl (by omega)).2⟩
  ·split
   ·rename_i h1
    have:=runV_le s true _ (p+1) rfl (by omega)
    show p < runV s true (p+1)∧runV s true (p+1)≤s.size
    omega
   ·show p < p+1∧p+1≤s.size;omega
theorem spec_l9One (s:ByteArray) (p:Nat) (hp:p < s.size) (hs:s.size≤9223372036854775807):Con 327 [.str s,.int .i64 p] (.tup [.agg (GToken.ro (oneV s p).1),.int .i64 (oneV s p).2]) [none,none]:=by
 have hb:=byteAt_in s p
 have cS:=spec_l9Small (byteAt s p) hb.1 hb.2
 have cD:=spec_l9Digit (byteAt s p) hb.1 hb.2
 have r1:=runV_le s true _ p rfl (by omega)
 have r2:=runV_le s false _ p rfl (by omega)
 refine con Tryz.func327 ?_
 refine ⟨Int.natCast_nonneg _,by omega,[.ro],.bool (small s p),[none],cS,trivial,fun h=>?_,fun h=>?_⟩
 ·rw[oneV,if_pos h]
  refine ⟨[.ro,.ro,.ro],.int .i64 (runV s true p),[none,none,none],.nbr rfl (spec_l9Run s p true (by omega) hs),trivial,?_⟩
  refine ⟨Int.natCast_nonneg _,by omega,by omega,[.ro],.agg (GToken.ro (wordV (s.extract p (runV s true p)))),[none],spec_l9Word _,trivial,?_⟩
  exact ⟨.refl _,trivial⟩
 ·refine ⟨[.ro],.bool (inI (byteAt s p) 48 57),[none],cD,trivial,fun h1=>?_,fun h1=>?_⟩
  ·rw[oneV,if_neg (by rw[h];decide),if_pos h1]
   refine ⟨[.ro,.ro,.ro],.int .i64 (runV s false p),[none,none,none],.nbr rfl (spec_l9Run s p false (by omega) hs),trivial,?_⟩
   have cO:=spec_ParseOct (s.extract p (runV s false p)) (by rw[ByteArray.size_extract];omega)
   rcases ho:poctV (s.extract p (runV s false p)) with _ | n<;>rw[ho] at cO
   ·refine ⟨Int.natCast_nonneg _,by omega,by omega,[.ro],.tup [.int .i64 0,.ff],[none],cO,trivial,?_⟩
    exact ⟨.refl _,trivial⟩
   ·refine ⟨Int.natCast_nonneg _,by omega,by omega,[.ro],.tup [.int .i64 n,.tt],[none],cO,trivial,?_⟩
    exact ⟨.refl _,trivial⟩
  ·rw[oneV,if_neg (by rw[h];decide),if_neg (by rw[h1];decide)]
   have e1:IntKind.wrap .i64 ((p:Int)+1)=((p+1:Nat):Int):=w64 (by omega) (by omega)
   refine ⟨fun a=>⟨fun b=>⟨by rw[e1];exact Int.natCast_nonneg _,by rw[e1];rw[e1] at b;exact of_decide_eq_true b,[.ro],.bool (small s (p+1)),[none],by rw[e1];exact spec_l9Small (byteAt s ((p+1:Nat):Int)) (byteAt_in s _).1 (byteAt_in s _).2,trivial,fun c=>?_,fun c=>?_⟩,fun b=>?_⟩,fun a=>?_⟩
   ·rw[e1] at b
    have b:=of_decide_eq_true b
    have a:=of_decide_eq_true a
    have r3:=runV_le s true _ (p+1) rfl (by omega)
    rw[if_pos ⟨a,by omega,c⟩]
    refine ⟨[.ro,.ro,.ro],.int .i64 (runV s true (p+1)),[none,none,none],.nbr rfl (by rw[e1];exact spec_l9Run s (p+1) true (by omega) hs),trivial,?_⟩
    refine ⟨Int.natCast_nonneg _,by omega,by omega,?_⟩
    exact ⟨.refl _,trivial⟩
   ·rw[if_neg (fun g=>by rw[c] at g;exact absurd g.2.2 (by decide))]
    refine ⟨Int.natCast_nonneg _,by rw[e1];omega,by rw[e1];omega,?_⟩
    refine ⟨.of_eq ?_,trivial⟩
    rw[e1];rfl
   ·rw[e1] at b
    have b:=of_decide_eq_false b
    rw[if_neg (fun g=>by omega)]
    refine ⟨Int.natCast_nonneg _,by rw[e1];omega,by rw[e1];omega,?_⟩
    refine ⟨.of_eq ?_,trivial⟩
    rw[e1];rfl
   ·have a:=of_decide_eq_false a
    rw[if_neg (fun g=>a g.1)]
    refine ⟨Int.natCast_nonneg _,by rw[e1];omega,by rw[e1];omega,?_⟩
    refine ⟨.of_eq ?_,trivial⟩
    rw[e1];rfl
def lexG (s:ByteArray):Nat→Nat→List GToken→Option (List GToken)
 | 0,_,out=>some out
 | f+1,p,out=>if p < s.size∧byteAt s p≠59 then (if byteAt s p=32∨byteAt s p=9 then lexG s f (p+1) out else if tokE (oneV s p).1=false∨out.length=800 then none else lexG s f (oneV s p).2 (out++[(oneV s p).1])) else some out
def lexV (s:ByteArray):Option (List GToken):=lexG s (s.size+1) 0 []
def gLex (x:Option (List GToken)):AV:=match x with | some l=> .tup [.ow 3 (GToken.ows l),.bool true] | none=> .tup [.ow 3 [],.bool false]
theorem oneV_size {s:ByteArray} {p:Nat} (h:p < s.size) (hs:s.size≤9223372036854775807):(oneV s p).1.s.size≤9223372036854775807:=by
 have hx:∀ a b,(s.extract a b).size≤9223372036854775807:=fun a b=>by rw[ByteArray.size_extract];omega
 rw[oneV]
 split
 ·show (wordV _).s.size≤_
  rw[wordV];split<;>exact hx _ _
 ·split
  ·exact Nat.zero_le _
  ·split
   ·exact hx _ _
   ·exact hx _ _
theorem toks_cat (a b:List GToken):GToken.ows a++GToken.ows b=GToken.ows (a++b):=List.map_append.symm
theorem toks_len (a:List GToken):(GToken.ows a).length=a.length:=by simp
theorem spec_Lex (s:ByteArray) (hs:s.size≤1099511627776):Con 307 [.str s] (gLex (lexV s)) [none]:=by
 refine con Tryz.func307 ?_
 refine ⟨{t:Nat×Nat×List GToken // t.2.1≤s.size∧s.size - t.2.1 < t.1∧t.2.2.length≤800∧lexG s t.1 t.2.1 t.2.2=lexV s},fun t=>⟨[(0,.str s),(4,.own 0),(5,.int .i64 t.1.2.1)],[(0,.rows 3 (GToken.ows t.1.2.2) [])]⟩,fun t=>t.1.1,⟨(s.size+1,0,[]),Nat.zero_le _,Nat.lt_succ_self _,Nat.zero_le _,rfl⟩,?_,?_⟩
 ·exact ⟨rfl,rfl,rfl,.refl _,trivial⟩
 ·rintro ⟨⟨f,p,out⟩,h1,h2,h3,h4⟩
  dsimp only at h1 h2 h3 h4⊢
  obtain ⟨g,rfl⟩:∃ g,f=g+1:=⟨f - 1,by omega⟩
  rw[lexG] at h4
  have stop:¬ (p < s.size∧byteAt s p≠59)→gLex (lexV s)= .tup [.ow 3 (GToken.ows out),.bool true]:=fun g=>by rw[←h4,if_neg g];rfl
  refine ⟨fun h=>⟨Int.natCast_nonneg _,of_decide_eq_true h,fun h5=>?_,fun h5=>?_⟩,fun h=>?_⟩<;>simp only[decide_eq_true_eq,decide_eq_false_iff_not] at h
  ·have hp:p < s.size:=by omega
   have h5:byteAt s p≠59:=by simpa using h5
   rw[if_pos ⟨hp,h5⟩] at h4
   have ho:=oneV_at hp
   have c1:=spec_l9One s p hp (by omega)
   have c2:=spec_TokenOk (oneV s p).1 (oneV_size hp (by omega))
   have e1:IntKind.wrap .i64 ((p:Int)+1)=((p+1:Nat):Int):=w64 (by omega) (by omega)
   have skip:byteAt s p=32∨byteAt s p=9→p+1≤s.size∧s.size - (p+1) < g∧out.length≤800∧lexG s g (p+1) out=lexV s:=fun e=>by
    rw[if_pos e] at h4
    exact ⟨hp,by omega,h3,h4⟩
   refine ⟨Int.natCast_nonneg _,h,fun h6=>⟨Int.natCast_nonneg _,h,fun h7=>?_,fun h7=>?_⟩,fun h6=>?_⟩
   ·exact ⟨⟨(g,p+1,out),skip (.inr (of_decide_eq_true h7))⟩,Nat.lt_succ_self _,rfl,congrArg (AV.int .i64) e1,rfl,.refl _,trivial⟩
   ·rw[if_neg (fun e=>e.elim (fun e=>absurd e (of_decide_eq_false h6)) fun e=>absurd e (of_decide_eq_false h7))] at h4
    refine ⟨[.ro,.ro],.tup [.agg (GToken.ro (oneV s p).1),.int .i64 (oneV s p).2],[none,none],c1,trivial,?_⟩
    refine ⟨[.ro],.bool (tokE (oneV s p).1),[none],c2,trivial,fun h8=>⟨fun h9=>?_,fun h9=>?_⟩,fun h8=>?_⟩<;>simp only[Bool.not_eq_true',Bool.not_eq_false'] at h8
    ·rw[if_pos (.inr (by have:=of_decide_eq_true h9;rw[toks_len] at this;omega))] at h4
     rw[←h4]
     exact ⟨.refl _,trivial⟩
    ·have h9:¬ out.length=800:=by have:=of_decide_eq_false h9;rw[toks_len] at this;omega
     rw[if_neg (fun e=>e.elim (fun e=>by rw[h8] at e;cases e) h9)] at h4
     refine ⟨trivial,(by show ((GToken.ows out).length+1)*32≤_;rw[toks_len];omega),⟨⟨trivial,trivial,trivial,trivial⟩,trivial⟩,?_⟩
     exact ⟨⟨(g,(oneV s p).2,out++[(oneV s p).1]),ho.2,by dsimp only;omega,by rw[List.length_append,List.length_singleton];omega,h4⟩,Nat.lt_succ_self _,rfl,rfl,rfl,SimRows.of_eq (toks_cat out [(oneV s p).1]),trivial⟩
    ·rw[if_pos (.inl h8)] at h4
     rw[←h4]
     exact ⟨.refl _,trivial⟩
   ·exact ⟨⟨(g,p+1,out),skip (.inl (of_decide_eq_true h6))⟩,Nat.lt_succ_self _,rfl,congrArg (AV.int .i64) e1,rfl,.refl _,trivial⟩
  ·rw[stop (fun g=>g.2 (by simpa using h5))]
   exact ⟨.refl _,trivial⟩
  ·rw[stop (fun g=>by omega)]
   exact ⟨.refl _,trivial⟩
end Go.Proofs.VI
