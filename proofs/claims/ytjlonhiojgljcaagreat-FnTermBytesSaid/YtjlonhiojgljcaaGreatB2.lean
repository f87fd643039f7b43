/- Contracts of functions, and what they rest on: l09. -/
import Derived.Test.YtjlonhiojgljcaaGreatB1
set_option linter.unusedVariables false
set_option linter.unusedSimpArgs false
set_option maxRecDepth 10000
set_option maxHeartbeats 4000000
namespace Go.Proofs.VI
open Go
def inI (x lo hi:Int):Bool:=decide (lo≤x)&&decide (x≤hi)
theorem spec_l1In (x lo hi:Int):Con 76 [.int .i64 x,.int .i64 lo,.int .i64 hi] (.bool (inI x lo hi)) [none,none,none]:=by
 refine con Tryz.func76 ?_
 refine ⟨fun h=>⟨.of_eq (congrArg AV.bool ?_),trivial⟩,fun h=>⟨.of_eq (congrArg AV.bool ?_),trivial⟩⟩<;>rw[inI,h]<;>rfl
theorem impl_within (x lo hi:Int):Con 150 [.int .i64 x,.int .i64 lo,.int .i64 hi] (.bool (inI x lo hi)) [none,none,none]:=by
 refine con Tryz.func150 ?_
 refine ⟨fun h=>⟨.of_eq (congrArg AV.bool ?_),trivial⟩,fun h=>⟨.of_eq (congrArg AV.bool ?_),trivial⟩⟩<;>rw[inI,h]<;>rfl
theorem impl_isWord (x:Int):Con 240 [.int .i64 x] (.bool (inI x 0 65535)) [none]:=by
 refine con Tryz.func240 ?_
 exact ⟨[.ro,.ro,.ro],.bool (inI x 0 65535),[none,none,none],impl_within x 0 65535,trivial,.refl _,trivial⟩
theorem impl_isTwo (x:Int):Con 178 [.int .i64 x] (.bool (inI x 5 10)) [none]:=by
 refine con Tryz.func178 ?_
 exact ⟨[.ro,.ro,.ro],.bool (inI x 5 10),[none,none,none],impl_within x 5 10,trivial,.refl _,trivial⟩
theorem impl_isLetter (c:Int) (h0:0≤c) (h1:c≤255):Con 251 [.int .u8 c] (.bool (inI c 97 122)) [none]:=by
 refine con Tryz.func251 ?_
 have e:IntKind.wrap .i64 c=c:=w64 (by omega) (by omega)
 exact ⟨[.ro,.ro,.ro],.bool (inI c 97 122),[none,none,none],by rw[e];exact impl_within c 97 122,trivial,.refl _,trivial⟩
theorem impl_isPart (c:Int) (h0:0≤c) (h1:c≤255):Con 286 [.int .u8 c] (.bool (inI c 97 122||inI c 48 57)) [none]:=by
 refine con Tryz.func286 ?_
 have e:IntKind.wrap .i64 c=c:=w64 (by omega) (by omega)
 refine ⟨[.ro],.bool (inI c 97 122),[none],impl_isLetter c h0 h1,trivial,?_⟩
 refine ⟨fun h=>⟨[.ro,.ro,.ro],.bool (inI c 48 57),[none,none,none],by rw[e];exact impl_within c 48 57,trivial,.of_eq (congrArg AV.bool ?_),trivial⟩,fun h=>⟨.of_eq (congrArg AV.bool ?_),trivial⟩⟩<;>rw[h]<;>rfl
theorem spec_l9Small (c:Int) (h0:0≤c) (h1:c≤255):Con 259 [.int .u8 c] (.bool (inI c 97 122)) [none]:=by
 refine con Tryz.func259 ?_
 have e:IntKind.wrap .i64 c=c:=w64 (by omega) (by omega)
 exact ⟨[.ro,.ro,.ro],.bool (inI c 97 122),[none,none,none],by rw[e];exact spec_l1In c 97 122,trivial,.refl _,trivial⟩
theorem spec_l9Digit (c:Int) (h0:0≤c) (h1:c≤255):Con 260 [.int .u8 c] (.bool (inI c 48 57)) [none]:=by
 refine con Tryz.func260 ?_
 have e:IntKind.wrap .i64 c=c:=w64 (by omega) (by omega)
 exact ⟨[.ro,.ro,.ro],.bool (inI c 48 57),[none,none,none],by rw[e];exact spec_l1In c 48 57,trivial,.refl _,trivial⟩
theorem byteAt_in (s:ByteArray) (i:Int):0≤byteAt s i∧byteAt s i≤255:=by
 have:=UInt8.toNat_lt (s.data.toList.getD i.toNat 0)
 rw[byteAt];omega
def small (s:ByteArray) (i:Nat):Bool:=inI (byteAt s i) 97 122
def part (s:ByteArray) (i:Nat):Bool:=small s i||inI (byteAt s i) 48 57
def form (s:ByteArray):Bool:=inI s.size 1 6&&(small s 0&&(List.range s.size).all (part s))
def keptWords:List ByteArray:=[⟨#[109,111,118]⟩,⟨#[99,109,112]⟩,⟨#[98,105,99]⟩,⟨#[98,105,115]⟩,⟨#[97,100,100]⟩,⟨#[115,117,98]⟩,⟨#[99,108,114]⟩,⟨#[105,110,99]⟩,⟨#[100,101,99]⟩,⟨#[110,101,103]⟩,⟨#[116,115,116]⟩,⟨#[97,115,114]⟩,⟨#[97,115,108]⟩,⟨#[106,109,112]⟩,⟨#[106,115,114]⟩,⟨#[114,116,115]⟩,⟨#[98,114]⟩,⟨#[98,110,101]⟩,⟨#[98,101,113]⟩,⟨#[98,103,101]⟩,⟨#[98,108,116]⟩,⟨#[104,97,108,116]⟩,⟨#[101,109,116]⟩]
def regNames:List ByteArray:=[⟨#[114,48]⟩,⟨#[114,49]⟩,⟨#[114,50]⟩,⟨#[114,51]⟩,⟨#[114,52]⟩,⟨#[114,53]⟩,⟨#[115,112]⟩,⟨#[112,99]⟩]
theorem impl_opWords:Con 253 [] (.ow 1 (GString.ows keptWords)) []:=by
 refine con Tryz.func253 ?_
 exact ⟨.refl _,trivial⟩
theorem impl_regWords:Con 254 [] (.ow 1 (GString.ows regNames)) []:=by
 refine con Tryz.func254 ?_
 exact ⟨.refl _,trivial⟩
theorem spec_l9Kept:Con 199 [] (.ow 1 (GString.ows (keptWords++regNames))) []:=by
 refine con Tryz.func199 ?_
 exact ⟨.refl _,trivial⟩
def formAt (s:ByteArray) (i:Nat):Bool:=small s i||(!decide (i=0)&&inI (byteAt s i) 48 57)
theorem form_formAt (s:ByteArray):form s=((List.range s.size).all (formAt s)&&inI s.size 1 6):=by
 rw[form,Bool.and_comm]
 cases hn:inI s.size 1 6 with
 | false=>simp
 | true=>
  have h1:1≤s.size:=by simp[inI] at hn;omega
  simp only[Bool.and_true]
  rw[Bool.eq_iff_iff]
  simp only[Bool.and_eq_true,List.all_eq_true,List.mem_range]
  constructor
  ·rintro ⟨h0,ha⟩ i hi
   rcases Nat.eq_zero_or_pos i with rfl | h2
   ·rw[formAt,h0];rfl
   ·have:=ha i hi
    rw[part] at this
    rw[formAt,decide_eq_false (by omega)];simpa using this
  ·intro ha
   refine ⟨by simpa [formAt] using ha 0 h1,fun i hi=>?_⟩
   have:=ha i hi
   simp only[formAt,part,Bool.or_eq_true,Bool.and_eq_true] at this⊢
   rcases this with h | h
   ·exact .inl h
   ·exact .inr h.2
def runEnd (s:ByteArray) (i:Nat):Nat:=if i < s.size∧part s i=true then runEnd s (i+1) else i
termination_by s.size - i
theorem runEnd_yes (s:ByteArray) (i:Nat) (h:i < s.size) (hp:part s i=true):runEnd s i=runEnd s (i+1):=by rw[runEnd,if_pos ⟨h,hp⟩]
theorem runEnd_no (s:ByteArray) (i:Nat) (h:¬ (i < s.size∧part s i=true)):runEnd s i=i:=by rw[runEnd,if_neg h]
theorem runEnd_le (s:ByteArray):∀ (n i:Nat),s.size - i=n→i≤s.size→i≤runEnd s i∧runEnd s i≤s.size:=by
 intro n
 induction n with
 | zero=>intro i h1 h2;rw[runEnd_no s i (by omega)];omega
 | succ n ih=>
  intro i h1 h2
  by_cases h:i < s.size∧part s i=true
  ·rw[runEnd_yes s i h.1 h.2]
   have:=ih (i+1) (by omega) (by omega)
   omega
  ·rw[runEnd_no s i h];omega
theorem runEnd_all (s:ByteArray):∀ (n i:Nat),s.size - i=n→i≤s.size→(runEnd s i=s.size↔∀ j,i≤j→j < s.size→part s j=true):=by
 intro n
 induction n with
 | zero=>intro i h1 h2;rw[runEnd_no s i (by omega)];exact ⟨fun _ j _ _=>by omega,fun _=>by omega⟩
 | succ n ih=>
  intro i h1 h2
  by_cases h:i < s.size∧part s i=true
  ·rw[runEnd_yes s i h.1 h.2,ih (i+1) (by omega) (by omega)]
   refine ⟨fun ha j h3 h4=>?_,fun ha j h3 h4=>ha j (by omega) h4⟩
   rcases Nat.eq_or_lt_of_le h3 with rfl | h5
   ·exact h.2
   ·exact ha j h5 h4
  ·rw[runEnd_no s i h]
   exact ⟨fun e=>by omega,fun ha=>absurd ⟨by omega,ha i (Nat.le_refl _) (by omega)⟩ h⟩
theorem extract_self (s:ByteArray) (m:Nat) (h:m≤s.size):(s.extract 0 m=s)↔m=s.size:=by
 constructor
 ·intro e
  have:=congrArg ByteArray.size e
  simp only[ByteArray.size_extract] at this
  omega
 ·rintro rfl
  exact ByteArray.extract_zero_size
theorem form_run (s:ByteArray) (h:1≤s.size):(List.range s.size).all (part s)=decide (s.extract 0 (runEnd s 0)=s):=by
 rw[Bool.eq_iff_iff,decide_eq_true_eq,extract_self s _ (runEnd_le s _ 0 rfl (by omega)).2,runEnd_all s _ 0 rfl (by omega)]
 simp[List.all_eq_true]
theorem spec_l9Form (s:ByteArray) (hs:s.size≤9223372036854775807):Con 198 [.str s] (.bool (form s)) [none]:=by
 refine con Tryz.func198 ?_
 rw[form_formAt]
 refine ⟨{i:Nat // i≤s.size∧∀ j,j < i→formAt s j=true},fun i=>⟨[(0,.str s),(3,.int .i64 i.1)],[]⟩,fun i=>s.size - i.1,⟨0,by omega,fun j h=>by omega⟩,?_,?_⟩
 ·exact ⟨rfl,rfl,trivial⟩
 ·rintro ⟨i,hi,ha⟩
  dsimp only
  have bad (hi:i < s.size) (h:formAt s i=false):((List.range s.size).all (formAt s)&&inI s.size 1 6)=false:=by
   rw[List.all_eq_false.2 ⟨i,by simpa using hi,by simpa using h⟩];rfl
  have e4 (hi:i < s.size):IntKind.wrap .i64 ((i:Int)+1)=((i+1:Nat):Int):=w64 (by omega) (by omega)
  have good (hi:i < s.size) (h:formAt s i=true):i+1≤s.size∧∀ j,j < i+1→formAt s j=true:=⟨by omega,fun j hj=>by
   rcases Nat.lt_succ_iff_lt_or_eq.1 hj with h3 | h3
   ·exact ha j h3
   ·subst h3;exact h⟩
  refine ⟨fun h=>?_,fun h=>?_⟩<;>simp only[decide_eq_true_eq,decide_eq_false_iff_not] at h
  ·have hi:i < s.size:=by omega
   have hb:=byteAt_in s i
   refine ⟨Int.natCast_nonneg _,h,[.ro],.bool (small s i),[none],spec_l9Small _ hb.1 hb.2,trivial,?_⟩
   refine ⟨fun h1=>⟨fun h2=>⟨Int.natCast_nonneg _,h,[.ro],.bool (inI (byteAt s i) 48 57),[none],spec_l9Digit _ hb.1 hb.2,trivial,fun h3=>⟨.of_eq (congrArg AV.bool ?_),trivial⟩,fun h3=>?_⟩,fun h2=>⟨.of_eq (congrArg AV.bool ?_),trivial⟩⟩,fun h1=>?_⟩<;>simp only[Bool.not_eq_true',Bool.not_eq_false',decide_eq_true_eq,decide_eq_false_iff_not] at h1
   ·simp only[Bool.not_eq_true'] at h3
    exact (bad hi (by rw[formAt,h1,h3];simp)).symm
   ·simp only[Bool.not_eq_false',decide_eq_false_iff_not] at h2 h3
    exact ⟨⟨i+1,good hi (by rw[formAt,h3];simp;omega)⟩,by dsimp only;omega,rfl,congrArg (AV.int .i64) (e4 hi),trivial⟩
   ·simp only[decide_eq_true_eq] at h2
    exact (bad hi (by rw[formAt,h1];simp;omega)).symm
   ·exact ⟨⟨i+1,good hi (by rw[formAt,h1];rfl)⟩,by dsimp only;omega,rfl,congrArg (AV.int .i64) (e4 hi),trivial⟩
  ·refine ⟨[.ro,.ro,.ro],.bool (inI s.size 1 6),[none,none,none],spec_l1In _ 1 6,trivial,.of_eq (congrArg AV.bool ?_),trivial⟩
   rw[List.all_eq_true.2 fun j hj=>ha j (by have:=List.mem_range.1 hj;omega)];rfl
theorem impl_runFrom (s:ByteArray) (p:Nat) (hp:p≤s.size) (hs:s.size≤9223372036854775807):Con 252 [.str s,.int .i64 p] (.str (s.extract p (runEnd s p))) [none,none]:=by
 refine con Tryz.func252 ?_
 refine ⟨{i:Nat // p≤i∧i≤s.size∧runEnd s i=runEnd s p},fun i=>⟨[(0,.str s),(1,.int .i64 p),(5,.int .i64 i.1)],[]⟩,fun i=>s.size - i.1,⟨p,by omega,hp,rfl⟩,?_,?_⟩
 ·exact ⟨rfl,rfl,rfl,trivial⟩
 ·rintro ⟨i,h0,hi,ha⟩
  dsimp only
  have hb:=byteAt_in s i
  have stop (h:¬ (i < s.size∧part s i=true)):runEnd s p=i:=by rw[←ha,runEnd_no s i h]
  refine ⟨fun h=>?_,fun h=>?_⟩<;>simp only[decide_eq_true_eq,decide_eq_false_iff_not] at h
  ·have hi:i < s.size:=by omega
   refine ⟨Int.natCast_nonneg _,h,[.ro],.bool (part s i),[none],impl_isPart _ hb.1 hb.2,trivial,fun h1=>?_,fun h1=>?_⟩
   ·exact ⟨⟨i+1,by omega,by omega,by rw[←runEnd_yes s i hi h1];exact ha⟩,by dsimp only;omega,rfl,rfl,congrArg (AV.int .i64) (w64 (by omega) (by omega)),trivial⟩
   ·refine ⟨by omega,by omega,by omega,.of_eq (congrArg AV.str ?_),trivial⟩
    rw[stop (by rw[h1];simp)];rfl
  ·refine ⟨by omega,by omega,by omega,.of_eq (congrArg AV.str ?_),trivial⟩
   rw[stop (by omega)];rfl
theorem impl_hasForm (s:ByteArray) (hs:s.size≤9223372036854775807):Con 192 [.str s] (.bool (form s)) [none]:=by
 refine con Tryz.func192 ?_
 refine ⟨[.ro,.ro,.ro],.bool (inI s.size 1 6),[none,none,none],impl_within _ 1 6,trivial,?_⟩
 have hb:=byteAt_in s 0
 refine ⟨fun h1=>?_,fun h1=>⟨.of_eq (congrArg AV.bool ?_),trivial⟩⟩
 rotate_left
 ·rw[form,h1];rfl
 have h0:1≤s.size:=by simp[inI] at h1;omega
 refine ⟨by decide,by show (0:Int) < s.size;omega,[.ro],.bool (small s 0),[none],impl_isLetter _ hb.1 hb.2,trivial,?_⟩
 refine ⟨fun h2=>⟨[.ro,.ro],.str (s.extract 0 (runEnd s 0)),[none,none],impl_runFrom s 0 (by omega) hs,trivial,.of_eq (congrArg AV.bool ?_),trivial⟩,fun h2=>⟨.of_eq (congrArg AV.bool ?_),trivial⟩⟩
 ·rw[form,h1,h2,form_run s h0];rfl
 ·rw[form,h1,h2];rfl
theorem placeOf_any (l:List GString) (s:ByteArray):decide (0≤placeOf l s)=l.any (fun x=>decide (x=s)):=idxOf_any (fun x:GString=>decide (x=s)) l
def kept (s:ByteArray):Bool:=(keptWords++regNames).any fun x=>decide (x=s)
def isNm (s:ByteArray):Bool:=form s&&!kept s
theorem impl_isKept (s:ByteArray):Con 193 [.str s] (.bool (kept s)) [none]:=by
 refine con Tryz.func193 ?_
 have e1:=placeOf_any keptWords s
 have e2:=placeOf_any regNames s
 have e3:kept s=(decide (0≤placeOf keptWords s)||decide (0≤placeOf regNames s)):=by rw[e1,e2,kept,List.any_append]
 refine ⟨[],.ow 1 (GString.ows keptWords),[],impl_opWords,trivial,?_⟩
 refine ⟨[.ro,.ro],.int .i64 (placeOf keptWords s),[none,none],by simp only[GString.toRo_ows keptWords fun x _=>GString.toRo_ow x];exact impl_placeIn keptWords s (by decide),⟨trivial,trivial⟩,?_⟩
 refine ⟨fun h=>?_,fun h=>⟨.of_eq (congrArg AV.bool ?_),trivial⟩⟩
 ·refine ⟨[],.ow 1 (GString.ows regNames),[],impl_regWords,trivial,?_⟩
  refine ⟨[.ro,.ro],.int .i64 (placeOf regNames s),[none,none],by simp only[GString.toRo_ows regNames fun x _=>GString.toRo_ow x];exact impl_placeIn regNames s (by decide),⟨trivial,trivial⟩,?_⟩
  refine ⟨.of_eq (congrArg AV.bool ?_),trivial⟩
  rw[e3,h];rfl
 ·rw[e3,h];rfl
theorem impl_isName (s:ByteArray) (hs:s.size≤9223372036854775807):Con 135 [.str s] (.bool (isNm s)) [none]:=by
 refine con Tryz.func135 ?_
 refine ⟨[.ro],.bool (form s),[none],impl_hasForm s hs,trivial,?_⟩
 refine ⟨fun h=>⟨[.ro],.bool (kept s),[none],impl_isKept s,trivial,.of_eq (congrArg AV.bool ?_),trivial⟩,fun h=>⟨.of_eq (congrArg AV.bool ?_),trivial⟩⟩<;>rw[isNm,h]<;>rfl
theorem spec_l9Name (s:ByteArray) (hs:s.size≤9223372036854775807):Con 141 [.str s] (.bool (isNm s)) [none]:=by
 refine con Tryz.func141 ?_
 have e1:=placeOf_any (keptWords++regNames) s
 refine ⟨[.ro],.bool (form s),[none],spec_l9Form s hs,trivial,?_⟩
 refine ⟨fun h=>?_,fun h=>⟨.of_eq (congrArg AV.bool ?_),trivial⟩⟩
 ·refine ⟨[],.ow 1 (GString.ows (keptWords++regNames)),[],spec_l9Kept,trivial,?_⟩
  refine ⟨[.ro,.ro],.int .i64 (placeOf (keptWords++regNames) s),[none,none],by simp only[GString.toRo_ows (keptWords++regNames) fun x _=>GString.toRo_ow x];exact spec_l9At _ s (by decide),⟨trivial,trivial⟩,.of_eq (congrArg AV.bool ?_),trivial⟩
  rw[isNm,h,kept,←e1,Bool.true_and]
  rcases Int.lt_or_le (placeOf (keptWords++regNames) s) 0 with h2 | h2
  ·rw[decide_eq_true h2,decide_eq_false (by omega)];rfl
  ·rw[decide_eq_false (by omega),decide_eq_true h2];rfl
 ·rw[isNm,h];rfl
end Go.Proofs.VI
