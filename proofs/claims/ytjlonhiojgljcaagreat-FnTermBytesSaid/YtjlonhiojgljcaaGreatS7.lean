/- Contracts of functions, and what they rest on: l15line. -/
import Derived.Test.YtjlonhiojgljcaaGreatS6
set_option linter.unusedVariables false
set_option linter.unusedSimpArgs false
set_option maxRecDepth 10000
set_option maxHeartbeats 4000000
namespace Go.Proofs.VI
open Go
theorem known_in {e:GExpr} {n:Int} (h:knownE e=some n):0≤n∧n≤65535:=by
 rw[knownE] at h
 split at h
 ·rename_i h1
  injection h with h
  rw[Bool.and_eq_true,decide_eq_true_eq] at h1
  have x:OkX 6 (foldX e):=(okE_six _).1 (by rw[foldX_okE];exact h1.1)
  rw[←h]
  exact x.num_in h1.2
 ·cases h
theorem words_in (x:GLine) (hl:x.l.length≤65535):0≤wordsOf x∧wordsOf x≤65535:=by
 have ha:∀ a,0≤argW a∧argW a≤1:=fun a=>by rw[argW];split<;>decide
 have h1:=ha x.src
 have h2:=ha x.dst
 rw[wordsOf]
 split
 ·omega
 ·split
  ·omega
  ·split
   ·split
    ·split
     ·rename_i h;exact known_in h
     ·decide
    ·decide
   ·decide
def kOk (x:GLine):Bool:=match x.l with | [e]=>(match knownE e with | some n=>decide (n≤256) | none=>false) | _=>false
def growV (p:PS) (a w:Int):PS:={p with ats:=p.ats.set p.sect (a+2*w),code:=if 512 < a+2*w then 6 else p.code}
def growP (p:PS) (a:Int) (x:GLine):PS:=if x.k=5∧kOk x=false then {p with code:=5} else growV p a (wordsOf x)
theorem spec_l15Grow (n:Nat) (p:PS) (hp:OkP n p) (a:Int) (ha:p.ats[p.sect]?=some a) (x:GLine) (hx:GLine.fit x) (ox:GLine.ok x) (hw:x.l.length≤65535) (h5:x.k=5→∃ e,x.l=[e]):Con 303 [.pb (pRow p),.agg (GLine.ro x)] (.tup []) [some (.pb (pRow (growP p a x))),none]:=by
 obtain ⟨h1,h2,h3,h4,h5',h6,h7,h8⟩:=hp
 have hw:=words_in x hw
 have ha2:=h8 a (List.mem_of_getElem? ha)
 have cW:=spec_WordsOf x hx ox
 have fx:=GLine.fit_un hx
 have gx:=GLine.ok_un ox
 have hrow:(GInt.ows p.ats)[(p.sect:Int).toNat]?=some [AV.int .i64 a]:=by rw[Int.toNat_natCast];simp[ha];rfl
 have hlt:(p.sect:Int) < (GInt.ows p.ats).length:=by simp;omega
 have e1:IntKind.wrap .i64 (a+IntKind.wrap .i64 (2*wordsOf x))=a+2*wordsOf x:=by rw[w64 (x:=2*wordsOf x) (by omega) (by omega),w64 (by omega) (by omega)]
 have hset:(GInt.ows p.ats).set (p.sect:Int).toNat [AV.int .i64 (IntKind.wrap .i64 (a+IntKind.wrap .i64 (2*wordsOf x)))]=GInt.ows (p.ats.set p.sect (a+2*wordsOf x)):=by
  rw[e1,Int.toNat_natCast,GInt.ows_eq,GInt.ows_eq,List.map_set];rfl
 have hrow2:((GInt.ows p.ats).set (p.sect:Int).toNat [AV.int .i64 (IntKind.wrap .i64 (a+IntKind.wrap .i64 (2*wordsOf x)))])[(p.sect:Int).toNat]?=some [AV.int .i64 (a+2*wordsOf x)]:=by
  rw[e1,Int.toNat_natCast,List.getElem?_set_self (by omega)]
 have hlt2:(p.sect:Int) < ((GInt.ows p.ats).set (p.sect:Int).toNat [AV.int .i64 (IntKind.wrap .i64 (a+IntKind.wrap .i64 (2*wordsOf x)))]).length:=by rw[List.length_set];exact hlt
 rw[growP]
 refine conI [] (fun i=>bif Nat.beq i 6 then some (0,300) else none) (fun _=>false) Tryz.func303 (fun _ h=>by cases h) ?_
 refine ⟨[.ro],.int .i64 (wordsOf x),[none],cW,trivial,fun h=>?_,fun h=>?_⟩
 ·have h:=of_decide_eq_true h
  obtain ⟨e,he⟩:=h5 h
  have hx0:(GExpr.ros x.l)[0]?=some (GExpr.ro e):=by rw[he,GExpr.ros_eq];rfl
  have me:e∈x.l:=by rw[he];exact List.mem_cons_self
  have cK:=spec_Known e (fx.2.2.2 e me) (gx.2.2.2.2.2.2.2 e me)
  refine ⟨by decide,_,hx0,?_⟩
  rcases hk:knownE e with _ | v<;>rw[hk] at cK
  ·refine ⟨[.ro],.tup [.int .i64 0,.bool false],[none],cK,trivial,?_⟩
   have hb:kOk x=false:=by rw[kOk,he];simp only[hk]
   rw[if_pos ⟨h,hb⟩]
   refine ⟨fun g=>(by cases g),fun g=>?_⟩
   exact ⟨.refl _,.refl _,trivial⟩
  ·refine ⟨[.ro],.tup [.int .i64 v,.bool true],[none],cK,trivial,?_⟩
   have hb:kOk x=decide (v≤256):=by rw[kOk,he];simp only[hk]
   refine ⟨fun g=>⟨fun g2=>?_,fun g2=>?_⟩,fun g=>(by cases g)⟩
   ·rw[if_pos ⟨h,by rw[hb];exact decide_eq_false (by have:=of_decide_eq_true g2;omega)⟩]
    exact ⟨.refl _,.refl _,trivial⟩
   ·rw[if_neg (fun q=>by rw[hb] at q;have:=of_decide_eq_false g2;have:=of_decide_eq_false q.2;omega)]
    refine ⟨Int.natCast_nonneg _,hlt,_,hrow,Int.natCast_nonneg _,hlt,_,hrow,by kernel_rfl,?_⟩
    refine ⟨Int.natCast_nonneg _,hlt2,_,hrow2,by kernel_rfl,fun h9=>?_,fun h9=>?_⟩
    ·rw[growV,if_pos (of_decide_eq_true h9)]
     exact ⟨.refl _,.of_eq (congrArg AV.pb (by rw[hset];rfl)),trivial⟩
    ·rw[growV,if_neg (of_decide_eq_false h9)]
     exact ⟨.refl _,.of_eq (congrArg AV.pb (by rw[hset];rfl)),trivial⟩
 ·rw[if_neg (fun g=>of_decide_eq_false h g.1)]
  refine ⟨Int.natCast_nonneg _,hlt,_,hrow,Int.natCast_nonneg _,hlt,_,hrow,by kernel_rfl,?_⟩
  refine ⟨Int.natCast_nonneg _,hlt2,_,hrow2,by kernel_rfl,fun h9=>?_,fun h9=>?_⟩
  ·rw[growV,if_pos (of_decide_eq_true h9)]
   exact ⟨.refl _,.of_eq (congrArg AV.pb (by rw[hset];rfl)),trivial⟩
  ·rw[growV,if_neg (of_decide_eq_false h9)]
   exact ⟨.refl _,.of_eq (congrArg AV.pb (by rw[hset];rfl)),trivial⟩
def insAll:List GExpr→List GString→List GString
 | [],g=>g
 | e::l,g=>insAll l (insS g e.s)
def gblP (p:PS) (l:List GExpr):PS:={p with globs:=insAll l p.globs}
def setL (p:PS) (a:Int) (x:GLine):List GExpr→PS
 | [e]=>setP p a x e
 | _=>p
def lineP2 (p:PS) (a:Int) (x:GLine):PS:=
 if lineE x=false then {p with code:=1}
 else if x.k=1 then defV p x.s (hereV p.sect a)
 else if x.k=2 then setL p a x x.l
 else if x.k=6 then sectV p x.s (decide (x.n=1))
 else if x.k=7 then gblP p x.l
 else if x.k=3∨x.k=4∨x.k=5 then growP p a x
 else p
theorem lineE_one {x:GLine} (h:lineE x=true) (hk:x.k=2∨x.k=5):∃ e,x.l=[e]:=by
 have h1:x.l.length=1:=by
  rcases Decidable.em (x.l.length=1) with g | g
  ·exact g
  ·have e2:oneL x.l=false:=decide_eq_false (by omega)
   exfalso
   rcases hk with hk | hk<;>simp[lineE,hk,e2] at h
 match hl:x.l with
 | []=>rw[hl] at h1;simp at h1
 | [e]=>exact ⟨e,rfl⟩
 | _::_::_=>rw[hl] at h1;simp at h1
theorem lineE_len {x:GLine} (h:lineE x=true):x.l.length≤6:=by
 rcases Nat.lt_or_ge 6 x.l.length with g | g
 ·have e1:emptyL x.l=false:=decide_eq_false (by omega)
  have e2:oneL x.l=false:=decide_eq_false (by omega)
  have e3:inI x.l.length 1 6=false:=inI_false.2 (by omega)
  exfalso
  simp[lineE,insLE,e1,e2,e3] at h
 ·exact g
theorem insAll_cat:∀ (l m:List GExpr) (g:List GString),insAll (l++m) g=insAll m (insAll l g)
 | [],m,g=>rfl
 | e::l,m,g=>insAll_cat l m (insS g e.s)
theorem insS_take {l:List GExpr} {g:List GString} {i:Nat} (hi:i < l.length):insAll (l.take (i+1)) g=insS (insAll (l.take i) g) l[i].s:=by
 rw[List.take_succ,List.getElem?_eq_getElem hi,insAll_cat];rfl
theorem insS_sorted2:∀ {l:List GExpr} {g:List GString},SortedS g→SortedS (insAll l g)
 | [],g,h=>h
 | e::l,g,h=>insS_sorted2 (l:=l) (insS_sorted h _)
theorem insS_len2:∀ {l:List GExpr} {g:List GString},(insAll l g).length≤g.length+l.length
 | [],g=>Nat.le_refl _
 | e::l,g=>by
  have h1:=@insS_len2 l (insS g e.s)
  have h2:(insS g e.s).length≤g.length+1:=insS_len g e.s
  rw[insAll,List.length_cons];omega
theorem spec_l15Line (n:Nat) (p:PS) (hp:OkP n p) (hn:n≤100000) (a:Int) (ha:p.ats[p.sect]?=some a) (x:GLine) (hx:GLine.fit x) (ox:GLine.ok x):Con 281 [.pb (pRow p),.agg (GLine.ro x)] (.tup []) [some (.pb (pRow (lineP2 p a x))),none]:=by
 have cL:=spec_LineOk x hx ox
 have fx:=GLine.fit_un hx
 have gx:=GLine.ok_un ox
 have hp':=hp
 obtain ⟨h1,h2,h3,h4,h5',h6,h7,h8⟩:=hp'
 have ha2:=h8 a (List.mem_of_getElem? ha)
 have hrow:(GInt.ows p.ats)[(p.sect:Int).toNat]?=some [AV.int .i64 a]:=by rw[Int.toNat_natCast];simp[ha];rfl
 have hlt:(p.sect:Int) < (GInt.ows p.ats).length:=by simp;omega
 rw[lineP2]
 refine conI [] (fun i=>bif Nat.beq i 5||Nat.beq i 14 then some (0,300) else none) (fun _=>false) Tryz.func281 (fun _ h=>by cases h) ?_
 refine ⟨[.ro],.bool (lineE x),[none],cL,trivial,fun hE=>?_,fun hE=>?_⟩<;>simp only[Bool.not_eq_true',Bool.not_eq_false'] at hE
 ·rw[if_pos hE]
  exact ⟨.refl _,.refl _,trivial⟩
 ·rw[if_neg (by rw[hE];decide)]
  have hl6:=lineE_len hE
  refine ⟨fun k1=>?_,fun k1=>⟨fun k2=>?_,fun k2=>⟨fun k6=>?_,fun k6=>⟨fun k7=>?_,fun k7=>⟨fun k3=>?_,fun k3=>⟨fun k4=>?_,fun k4=>⟨fun k5=>?_,fun k5=>?_⟩⟩⟩⟩⟩⟩⟩
  ·rw[if_pos (of_decide_eq_true k1)]
   have cH:=spec_l15Here p.sect a (by omega) (by omega) (by omega)
   have cD:=spec_l15Define p x.s (hereV p.sect a) (by omega)
   refine ⟨Int.natCast_nonneg _,hlt,_,hrow,?_⟩
   refine ⟨[.ro,.ro],.agg (GExpr.ro (hereV p.sect a)),[none,none],cH,trivial,?_⟩
   refine ⟨[.mut,.ro,.ro],.tup [],[some (.pb (pRow (defV p x.s (hereV p.sect a)))),none,none],cD,trivial,by kernel_rfl,?_⟩
   exact ⟨.refl _,.refl _,trivial⟩
  ·rw[if_neg (of_decide_eq_false k1),if_pos (of_decide_eq_true k2)]
   obtain ⟨e,he⟩:=lineE_one hE (.inl (of_decide_eq_true k2))
   have me:e∈x.l:=by rw[he];exact List.mem_cons_self
   have cS:=spec_l15Set n p hp (by omega) a ha x e he ⟨fx.2.2.2 e me,gx.2.2.2.2.2.2.2 e me⟩
   rw[show setL p a x x.l=setP p a x e by rw[he];rfl]
   refine ⟨[.mut,.ro],.tup [],[some (.pb (pRow (setP p a x e))),none],cS,trivial,?_⟩
   exact ⟨.refl _,.refl _,trivial⟩
  ·rw[if_neg (of_decide_eq_false k1),if_neg (of_decide_eq_false k2),if_pos (of_decide_eq_true k6)]
   refine ⟨[.mut,.ro,.ro],.tup [],[some (.pb (pRow (sectV p x.s (decide (x.n=1))))),none,none],spec_l15Sect n p hp x.s _,trivial,?_⟩
   exact ⟨.refl _,.refl _,trivial⟩
  ·rw[if_neg (of_decide_eq_false k1),if_neg (of_decide_eq_false k2),if_neg (of_decide_eq_false k6),if_pos (of_decide_eq_true k7)]
   have la:=ros_len x.l
   refine ⟨{i:Nat // i≤x.l.length},fun i=>⟨[(0,.ptr 0 0 0),(3,.ptr 1 0 0),(4,.int .i64 i.1)],[(0,.box (pRow (gblP p (x.l.take i.1))) []),(1,.box (GLine.ro x) [])]⟩,fun i=>x.l.length - i.1,⟨0,Nat.zero_le _⟩,?_,?_⟩
   ·exact ⟨rfl,rfl,rfl,rfl,rfl,.refl _,.refl _,trivial⟩
   ·rintro ⟨i,hi⟩
    dsimp only
    have e1:IntKind.wrap .i64 ((i:Int)+1)=((i+1:Nat):Int):=w64 (by omega) (by omega)
    refine ⟨fun h=>?_,fun h=>?_⟩
    ·have h:=of_decide_eq_true h
     rw[la] at h
     have hi:i < x.l.length:=by omega
     have cS:=spec_l15Sorted (gblP p (x.l.take i)).globs x.l[i].s (by have:=@insS_len2 (x.l.take i) p.globs;rw[List.length_take] at this;show (insAll (x.l.take i) p.globs).length≤_;omega) (insS_sorted2 h6)
     refine ⟨Int.natCast_nonneg _,_,ros_get _ _ hi,?_⟩
     refine ⟨[.ro,.ro],.ro 1 (GString.ros (insS (gblP p (x.l.take i)).globs x.l[i].s)),[none,none],cS,trivial,by kernel_rfl,?_⟩
     refine ⟨⟨i+1,hi⟩,Nat.sub_succ_lt_self _ _ hi,rfl,rfl,rfl,rfl,congrArg (AV.int .i64) e1,.of_eq (congrArg (fun g=>[[AV.ow 5 (symRs p.syms),AV.ow 3 (secRs p.sects),AV.ro 1 (GString.ros g),AV.ow 1 (GInt.ows p.ats),AV.int .i64 p.sect,AV.int .i64 p.code]]) (insS_take hi).symm),.refl _,trivial⟩
    ·have h:=of_decide_eq_false h
     rw[la] at h
     rw[List.take_of_length_le (by omega)]
     exact ⟨.refl _,.refl _,trivial⟩
  ·rw[if_neg (of_decide_eq_false k1),if_neg (of_decide_eq_false k2),if_neg (of_decide_eq_false k6),if_neg (of_decide_eq_false k7),if_pos (.inl (of_decide_eq_true k3))]
   refine ⟨[.mut,.ro],.tup [],[some (.pb (pRow (growP p a x))),none],spec_l15Grow n p hp a ha x hx ox (by omega) (fun k=>lineE_one hE (.inr k)),trivial,?_⟩
   exact ⟨.refl _,.refl _,trivial⟩
  ·rw[if_neg (of_decide_eq_false k1),if_neg (of_decide_eq_false k2),if_neg (of_decide_eq_false k6),if_neg (of_decide_eq_false k7),if_pos (.inr (.inl (of_decide_eq_true k4)))]
   refine ⟨[.mut,.ro],.tup [],[some (.pb (pRow (growP p a x))),none],spec_l15Grow n p hp a ha x hx ox (by omega) (fun k=>lineE_one hE (.inr k)),trivial,?_⟩
   exact ⟨.refl _,.refl _,trivial⟩
  ·rw[if_neg (of_decide_eq_false k1),if_neg (of_decide_eq_false k2),if_neg (of_decide_eq_false k6),if_neg (of_decide_eq_false k7),if_pos (.inr (.inr (of_decide_eq_true k5)))]
   refine ⟨[.mut,.ro],.tup [],[some (.pb (pRow (growP p a x))),none],spec_l15Grow n p hp a ha x hx ox (by omega) (fun k=>lineE_one hE (.inr k)),trivial,?_⟩
   exact ⟨.refl _,.refl _,trivial⟩
  ·rw[if_neg (of_decide_eq_false k1),if_neg (of_decide_eq_false k2),if_neg (of_decide_eq_false k6),if_neg (of_decide_eq_false k7),if_neg (fun q=>q.elim (of_decide_eq_false k3) fun q=>q.elim (of_decide_eq_false k4) (of_decide_eq_false k5))]
   exact ⟨.refl _,.refl _,trivial⟩
end Go.Proofs.VI
