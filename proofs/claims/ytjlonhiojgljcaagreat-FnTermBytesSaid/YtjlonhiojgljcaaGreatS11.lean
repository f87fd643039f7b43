/- Contracts of functions, and what they rest on: l16go l16as. -/
import Derived.Test.YtjlonhiojgljcaaGreatS10
set_option linter.unusedVariables false
set_option linter.unusedSimpArgs false
set_option maxRecDepth 10000
set_option maxHeartbeats 4000000
namespace Go.Proofs.VI
open Go
def lastS (l:List GSect) (s:ByteArray) (d:Nat):Nat→Nat
 | 0=>d
 | i+1=>match l[i]? with | some y=>if y.name=s then i else lastS l s d i | none=>lastS l s d i
def ovw (ws l:List GExpr) (k:Nat):List GExpr:=ws.take k++(l++ws.drop (k+l.length))
theorem ovw_len {ws l:List GExpr} {k:Nat} (h:k+l.length≤ws.length):(ovw ws l k).length=ws.length:=by
 simp only[ovw,List.length_append,List.length_take,List.length_drop];omega
theorem ovw_nil (ws:List GExpr) (k:Nat):ovw ws [] k=ws:=by
 simp[ovw,List.take_append_drop]
theorem ovw_set {ws l:List GExpr} {k i:Nat} (hi:i < l.length) (h:k+l.length≤ws.length):(ovw ws (l.take i) k).set (k+i) l[i]=ovw ws (l.take (i+1)) k:=by
 have e1:(l.take i).length=i:=by rw[List.length_take];omega
 have e2:(l.take (i+1)).length=i+1:=by rw[List.length_take];omega
 have e3:(ws.take k).length=k:=by rw[List.length_take];omega
 have e4:l.take (i+1)=l.take i++[l[i]]:=by rw[List.take_succ,List.getElem?_eq_getElem hi];rfl
 rw[ovw,ovw,e1,e2,List.set_append_right _ _ (by omega),e3,show k+i - k=i by omega,List.set_append_right _ _ (by omega),e1,Nat.sub_self]
 rw[List.drop_eq_getElem_cons (show k+i < ws.length by omega),List.set_cons_zero,e4]
 simp only[List.append_assoc,List.cons_append,List.nil_append,Nat.add_assoc]
theorem ovw_mem {ws l:List GExpr} {k:Nat} {P:GExpr→Prop} (h1:∀ w∈ws,P w) (h2:∀ w∈l,P w):∀ w∈ovw ws l k,P w:=fun w hw=>by
 rcases List.mem_append.1 hw with q | q
 ·exact h1 w (List.mem_of_mem_take q)
 ·rcases List.mem_append.1 q with q | q
  ·exact h2 w q
  ·exact h1 w (List.mem_of_mem_drop q)
def setW (sects:List GSect) (k:Nat) (f:List GExpr→List GExpr):List GSect:=sects.modify k fun y=>{y with words:=f y.words}
def goR (t:TA) (sects:List GSect) (ats:List Int) (sect:Nat):List AV:=[.ro 5 (symRs t.syms),.ow 3 (secRs sects),.ro 1 (GString.ros t.globs),.ow 1 (GInt.ows ats),.int .i64 sect]
structure GS where
 sects:List GSect
 ats:List Int
 sect:Nat
def goV (t:TA) (s:GS) (a:Int) (x:GLine):GS×Int:=
 if x.k=6 then (⟨s.sects,s.ats,lastS s.sects x.s s.sect s.sects.length⟩,0)
 else (⟨setW s.sects s.sect fun ws=>ovw ws (lwV t s.sect a x).1 (a/2).toNat,s.ats.set s.sect (a+2*(lwV t s.sect a x).1.length),s.sect⟩,(lwV t s.sect a x).2)
theorem lastS_hit {l:List GSect} {s:ByteArray} {d i:Nat} (h:i < l.length):lastS l s d (i+1)=if l[i].name=s then i else lastS l s d i:=by
 rw[lastS,List.getElem?_eq_getElem h]
theorem spec_l16Go (t:TA) (ht:TAok t) (s:GS) (hs:s.sects.length≤8) (hl:s.ats.length=s.sects.length) (hk:s.sect < s.sects.length) (a:Int) (ha:s.ats[s.sect]?=some a) (ha0:0≤a) (ha1:a≤600) (x:GLine) (hx:GLine.fit x) (ox:GLine.ok x) (hr:x.k≠6→(a/2).toNat+(lwV t s.sect a x).1.length≤s.sects[s.sect].words.length):Con 246 [.pb (goR t s.sects s.ats s.sect),.agg (GLine.ro x)] (.int .i64 (goV t s a x).2) [some (.pb (goR t (goV t s a x).1.sects (goV t s a x).1.ats (goV t s a x).1.sect)),none]:=by
 obtain ⟨sects,ats,sect⟩:=s
 dsimp only at hs hl hk ha hr
 have hlen:=secRs_len sects
 have cW:=spec_LineWords t ht sect a x hx ox
 have hrow:(GInt.ows ats)[(sect:Int).toNat]?=some [AV.int .i64 a]:=by rw[Int.toNat_natCast];simp[ha];rfl
 have hlt:(sect:Int) < (GInt.ows ats).length:=by simp;omega
 rw[goV]
 refine conI [] (fun i=>bif Nat.beq i 8||(Nat.beq i 12||Nat.beq i 13) then some (0,267) else none) (fun _=>false) Tryz.func246 (fun _ h=>by cases h) ?_
 refine ⟨fun h6=>?_,fun h6=>?_⟩
 ·rw[if_pos (of_decide_eq_true h6)]
  refine ⟨{i:Nat // i≤sects.length},fun i=>⟨[(0,.ptr 0 0 0),(3,.ptr 1 0 0),(5,.int .i64 i.1)],[(0,.box (goR t sects ats (lastS sects x.s sect i.1)) []),(1,.box (GLine.ro x) [])]⟩,fun i=>sects.length - i.1,⟨0,Nat.zero_le _⟩,?_,?_⟩
  ·exact ⟨rfl,rfl,rfl,rfl,rfl,.refl _,.refl _,trivial⟩
  ·rintro ⟨i,hi⟩
   dsimp only
   have e1:IntKind.wrap .i64 ((i:Int)+1)=((i+1:Nat):Int):=w64 (by omega) (by omega)
   refine ⟨fun h=>?_,fun h=>?_⟩
   ·have h:=of_decide_eq_true h
    rw[hlen] at h
    have hi:i < sects.length:=by omega
    have hrow:(secRs sects)[i]?=some (secR sects[i]):=map_get _ _ hi
    have e2:=lastS_hit (s:=x.s) (d:=sect) hi
    refine ⟨Int.natCast_nonneg _,by rw[hlen];exact h,_,hrow,by kernel_rfl,fun h2=>?_,fun h2=>?_⟩
    ·rw[if_pos (of_decide_eq_true h2)] at e2
     refine ⟨⟨i+1,hi⟩,Nat.sub_succ_lt_self _ _ hi,rfl,rfl,rfl,rfl,congrArg (AV.int .i64) e1,?_,.refl _,trivial⟩
     rw[e2];exact .refl _
    ·rw[if_neg (of_decide_eq_false h2)] at e2
     refine ⟨⟨i+1,hi⟩,Nat.sub_succ_lt_self _ _ hi,rfl,rfl,rfl,rfl,congrArg (AV.int .i64) e1,?_,.refl _,trivial⟩
     rw[e2];exact .refl _
   ·have h:=of_decide_eq_false h
    rw[hlen] at h
    rw[show i=sects.length by omega]
    exact ⟨.refl _,.refl _,trivial⟩
 ·have h6:=of_decide_eq_false h6
  rw[if_neg h6]
  have hr:=hr h6
  dsimp only
  have hw:=(lwV_ok (t:=t) (sect:=sect) (p:=a) (x:=x)).2.1
  generalize lwV t sect a x=W at*
  obtain ⟨l,c⟩:=W
  dsimp only at hr hw⊢
  refine ⟨Int.natCast_nonneg _,hlt,_,hrow,?_⟩
  refine ⟨[.ro,.no,.ro,.ro],.tup [.ow 4 (GExpr.ros l),.int .i64 c],[none,none,none,none],cW,trivial,by kernel_rfl,?_⟩
  obtain ⟨k,hk2⟩:∃ k:Nat,(a/2).toNat=k:=⟨_,rfl⟩
  rw[hk2] at hr⊢
  have hll:=ros_len l
  have hat:(GInt.ows ats).length=ats.length:=by simp
  obtain ⟨⟨nm,ov,ws⟩,hsec⟩:∃ y,sects[sect]?=some y:=⟨_,List.getElem?_eq_getElem hk⟩
  have hws:sects[sect].words=ws:=by rw[List.getElem?_eq_getElem hk] at hsec;injection hsec with hsec;rw[hsec]
  rw[hws] at hr
  have hMl (f:List GExpr→List GExpr):(setW sects sect f).length=sects.length:=by rw[setW,List.length_modify]
  have hM (f:List GExpr→List GExpr):secRs (setW sects sect f)=(secRs sects).set sect [.str nm,.bool ov,.ow 4 (GExpr.ros (f ws))]:=by
   refine List.ext_getElem? fun q=>?_
   rw[List.getElem?_map,setW,List.getElem?_modify,List.getElem?_set]
   by_cases e:sect=q
   ·subst e
    rw[if_pos rfl,hsec,if_pos (by rw[hlen];omega)];simp;rfl
   ·rw[if_neg e,List.getElem?_map]
    cases sects[q]?<;>simp[e]
  have e5:IntKind.wrap .i64 (a.tdiv 2)=(k:Int):=by
   rw[Int.tdiv_eq_ediv_of_nonneg ha0,w64 (by omega) (by omega)];omega
  refine ⟨{i:Nat // i≤l.length},fun i=>⟨[(0,.ptr 0 0 0),(6,.own 2),(7,.int .i64 c),(8,.int .i64 i.1)],[(0,.box (goR t (setW sects sect fun ws=>ovw ws (l.take i.1) k) ats sect) []),(2,.rows 4 (GExpr.ros l) [])]⟩,fun i=>l.length - i.1,⟨0,Nat.zero_le _⟩,?_,?_⟩
  ·refine ⟨rfl,rfl,rfl,rfl,?_,rfl,.refl _,trivial⟩
   have:setW sects sect (fun ws=>ovw ws (l.take 0) k)=sects:=by
    rw[List.take_zero,setW,modify_id hsec (by rw[ovw_nil])]
   dsimp only
   rw[this];exact .refl _
  ·rintro ⟨i,hi⟩
   dsimp only
   have e1:IntKind.wrap .i64 ((i:Int)+1)=((i+1:Nat):Int):=w64 (by omega) (by omega)
   refine ⟨fun h=>?_,fun h=>?_⟩
   ·have h:=of_decide_eq_true h
    rw[hll] at h
    have hi:i < l.length:=by omega
    have hr2:(secRs (setW sects sect fun ws=>ovw ws (l.take i) k))[(sect:Int).toNat]?=some [.str nm,.bool ov,.ow 4 (GExpr.ros (ovw ws (l.take i) k))]:=by
     rw[Int.toNat_natCast,hM,List.getElem?_set_self (by rw[hlen];omega)]
    have hol:(ovw ws (l.take i) k).length=ws.length:=ovw_len (by rw[List.length_take];omega)
    have hwl:(GExpr.ros (ovw ws (l.take i) k)).length=ws.length:=by rw[ros_len,hol]
    have e6:IntKind.wrap .i64 ((k:Int)+i)=((k+i:Nat):Int):=w64 (by omega) (by omega)
    have hwr:(GExpr.ros (ovw ws (l.take i) k))[(IntKind.wrap .i64 (IntKind.wrap .i64 (a.tdiv 2)+(i:Int))).toNat]?=some (GExpr.ro ((ovw ws (l.take i) k)[k+i]'(by omega))):=by
     rw[e5,e6,Int.toNat_natCast];exact ros_get _ _ (by omega)
    refine ⟨Int.natCast_nonneg _,by rw[secRs_len,hMl];omega,_,hr2,Int.natCast_nonneg _,hlt,_,hrow,by decide,Int.natCast_nonneg _,by rw[hll];omega,_,ros_get _ _ hi,by rw[e5,e6];exact Int.natCast_nonneg _,by rw[e5,e6,hwl];omega,_,hwr,by kernel_rfl,?_⟩
    refine ⟨⟨i+1,hi⟩,Nat.sub_succ_lt_self _ _ hi,rfl,rfl,rfl,congrArg (AV.int .i64) e1,.of_eq ?_,rfl,.refl _,trivial⟩
    have hset:(GExpr.ros (ovw ws (l.take i) k)).set (IntKind.wrap .i64 (IntKind.wrap .i64 (a.tdiv 2)+(i:Int))).toNat (GExpr.ro l[i])=GExpr.ros (ovw ws (l.take (i+1)) k):=by
     rw[e5,e6,Int.toNat_natCast,←ovw_set hi hr,GExpr.ros_eq,GExpr.ros_eq,List.map_set]
    have hfin (W:List (List AV)) (e:W=GExpr.ros (ovw ws (l.take (i+1)) k)):((secRs (setW sects sect fun ws=>ovw ws (l.take i) k)).modify (sect:Int).toNat fun row=>row.set (0+2) (.ow 4 W))=secRs (setW sects sect fun ws=>ovw ws (l.take (i+1)) k):=by
     rw[hM,hM,Int.toNat_natCast,set_mod (by rw[hlen];omega),e];rfl
    exact congrArg (fun z=>[[AV.ro 5 (symRs t.syms),AV.ow 3 z,AV.ro 1 (GString.ros t.globs),AV.ow 1 (GInt.ows ats),AV.int .i64 sect]]) (hfin _ hset)
   ·have h:=of_decide_eq_false h
    rw[hll] at h
    rw[List.take_of_length_le (by omega)]
    have hrow2:=hrow
    refine ⟨Int.natCast_nonneg _,hlt,_,hrow,Int.natCast_nonneg _,hlt,_,hrow,by kernel_rfl,?_⟩
    refine ⟨.refl _,.of_eq (congrArg AV.pb ?_),trivial⟩
    have e7:IntKind.wrap .i64 (a+IntKind.wrap .i64 (2*((GExpr.ros l).length:Int)))=a+2*l.length:=by
     rw[hll,w64 (x:=2*(l.length:Int)) (by omega) (by omega),w64 (by omega) (by omega)]
    have hset:(GInt.ows ats).set (sect:Int).toNat [AV.int .i64 (IntKind.wrap .i64 (a+IntKind.wrap .i64 (2*((GExpr.ros l).length:Int))))]=GInt.ows (ats.set sect (a+2*l.length)):=by
     rw[e7,Int.toNat_natCast,GInt.ows_eq,GInt.ows_eq,List.map_set];rfl
    exact congrArg (fun z=>[AV.ro 5 (symRs t.syms),AV.ow 3 (secRs (setW sects sect fun ws=>ovw ws l k)),AV.ro 1 (GString.ros t.globs),AV.ow 1 z,AV.int .i64 sect]) hset
def finP (l:List GLine):PS:=passP l (endI l)
def finT (l:List GLine):TA:=⟨(finP l).syms,(finP l).globs⟩
def curG (s:GS):Int:=s.ats.getD s.sect 0
def g2 (l:List GLine):Nat→GS
 | 0=>⟨fillS (finP l).sects (finP l).ats (finP l).sects.length,List.replicate (finP l).sects.length 0,0⟩
 | i+1=>match l[i]? with | some x=>(goV (finT l) (g2 l i) (curG (g2 l i)) x).1 | none=>g2 l i
def g2c (l:List GLine) (i:Nat):Int:=match l[i]? with | some x=>(goV (finT l) (g2 l i) (curG (g2 l i)) x).2 | none=>0
theorem g2_step {l:List GLine} {i:Nat} (hi:i < l.length):goV (finT l) (g2 l i) (curG (g2 l i)) l[i]=(g2 l (i+1),g2c l i):=by
 rw[g2,g2c,List.getElem?_eq_getElem hi]
theorem lastS_eq {l:List GSect} {s:ByteArray} {d k:Nat} (hk:k < l.length) (hs:l[k].name=s) (hn:(l.map GSect.name).Nodup):∀ n,k < n→n≤l.length→lastS l s d n=k
 | n+1,h1,h2=>by
  rw[lastS_hit (by omega)]
  rcases Nat.lt_succ_iff_lt_or_eq.1 h1 with g | g
  ·rw[if_neg fun e=>?_]
   ·exact lastS_eq hk hs hn n g (by omega)
   ·have:(l.map GSect.name)[n]'(by rw[List.length_map];omega)=(l.map GSect.name)[k]'(by rw[List.length_map];omega):=by
     rw[List.getElem_map,List.getElem_map,e,hs]
    exact List.pairwise_iff_getElem.1 hn k n (by rw[List.length_map];omega) (by rw[List.length_map];omega) g this.symm
  ·subst g
   rw[if_pos hs]
structure Grow (p q:PS):Prop where
 sects:∃ m,q.sects=p.sects++m
 len:p.ats.length≤q.ats.length
 ats:∀ (j:Nat) a,p.ats[j]?=some a→∃ b,q.ats[j]?=some b∧a≤b
theorem Grow.refl (p:PS):Grow p p:=⟨⟨[],(List.append_nil _).symm⟩,Nat.le_refl _,fun j a h=>⟨a,h,Int.le_refl _⟩⟩
theorem Grow.trans {p q r:PS} (h:Grow p q) (g:Grow q r):Grow p r:=by
 obtain ⟨m,h1⟩:=h.sects
 obtain ⟨m2,g1⟩:=g.sects
 refine ⟨⟨m++m2,by rw[g1,h1,List.append_assoc]⟩,Nat.le_trans h.len g.len,fun j a ha=>?_⟩
 obtain ⟨b,hb,hab⟩:=h.ats j a ha
 obtain ⟨c,hc,hbc⟩:=g.ats j b hb
 exact ⟨c,hc,by omega⟩
theorem LineS.grow {n:Nat} {p q:PS} {x:GLine} (h:LineS p x q) (ok:OkP n p):Grow p q:=by
 by_cases h6:x.k=6
 ·obtain ⟨_,h1,k,h2⟩:=h.sect h6
  refine ⟨h1,by rw[h2,List.length_append];omega,fun j a ha=>⟨a,?_,Int.le_refl _⟩⟩
  rw[h2,List.getElem?_append_left (List.getElem?_eq_some_iff.1 ha).1];exact ha
 ·by_cases h3:x.k=3∨x.k=4∨x.k=5
  ·obtain ⟨h1,h2,h4,_⟩:=h.word h3
   have hw:=words_in x (by have:=lineE_len h.okl;omega)
   refine ⟨⟨[],by rw[h1,List.append_nil]⟩,by rw[h4,List.length_set];omega,fun j a ha=>?_⟩
   rw[h4,List.getElem?_set]
   by_cases e:p.sect=j
   ·subst e
    rw[curA_get ok] at ha
    injection ha with ha
    subst ha
    have:=ok.here
    have:=ok.len
    rw[if_pos rfl,if_pos (by omega)]
    exact ⟨_,rfl,by omega⟩
   ·rw[if_neg e]
    exact ⟨a,ha,Int.le_refl _⟩
  ·obtain ⟨h1,h2,h4⟩:=h.none (fun g=>by omega)
   exact ⟨⟨[],by rw[h1,List.append_nil]⟩,by rw[h4];omega,fun j a ha=>⟨a,by rw[h4];exact ha,Int.le_refl _⟩⟩
structure Goes (l:List GLine):Prop where
 fo:∀ x∈l,∀ e∈x.l,FO e
 code:∀ j,j≤endI l→(passP l j).code=0
theorem Goes.okq {l:List GLine} (h:Goes l) {i:Nat} (hi:i≤endI l):OkQ i (passP l i):=passP_ok h.fo i (by have:=endI_le l;omega) fun j hj=>h.code j (by omega)
theorem Goes.lineS {l:List GLine} (h:Goes l) {i:Nat} (hi:i < endI l):LineS (passP l i) (l[i]'(by have:=endI_le l;omega)) (passP l (i+1)):=by
 have hl:=endI_le l
 have:=line_step (h.okq (i:=i) (by omega)) (h.fo (l[i]'(by omega)) (List.getElem_mem _)) (by rw[←passP_step (by omega)];exact h.code (i+1) (by omega))
 rw[←passP_step (by omega)] at this
 exact this.2
theorem Goes.grow {l:List GLine} (h:Goes l):∀ {i j:Nat},i≤j→j≤endI l→Grow (passP l i) (passP l j)
 | i,0,h1,h2=>by
  have:i=0:=by omega
  subst this;exact .refl _
 | i,j+1,h1,h2=>by
  rcases Nat.lt_or_ge i (j+1) with g | g
  ·exact (h.grow (by omega) (by omega)).trans ((h.lineS (by omega)).grow (h.okq (by omega)).ok)
  ·have:i=j+1:=by omega
   subst this;exact .refl _
structure OkG (l:List GLine) (i:Nat) (s:GS):Prop where
 sect:s.sect=(passP l i).sect
 alen:s.ats.length=(finP l).sects.length
 ats:∀ (j:Nat) a,(passP l i).ats[j]?=some a→s.ats[j]?=some a
 zero:∀ j:Nat,(passP l i).ats.length≤j→j < (finP l).sects.length→s.ats[j]?=some 0
 nm:s.sects.map GSect.name=(finP l).sects.map GSect.name
 wl:∀ (j:Nat) y,s.sects[j]?=some y→∃ a,(finP l).ats[j]?=some a∧y.words.length=secN a
 ok:∀ y∈s.sects,∀ w∈y.words,OkX 6 w
theorem OkG.len {l:List GLine} {i:Nat} {s:GS} (h:OkG l i s):s.sects.length=(finP l).sects.length:=by
 have:=congrArg List.length h.nm
 rwa [List.length_map,List.length_map] at this
theorem OkG.cur {l:List GLine} {i:Nat} {s:GS} (h:OkG l i s) (g:Goes l) (hi:i≤endI l):s.ats[s.sect]?=some (curA (passP l i))∧curG s=curA (passP l i):=by
 have h1:=h.ats _ _ (curA_get (g.okq hi).ok)
 rw[←h.sect] at h1
 refine ⟨h1,?_⟩
 rw[curG,List.getD_eq_getElem?_getD,h1];rfl
theorem OkG.here {l:List GLine} {i:Nat} {s:GS} (h:OkG l i s) (g:Goes l) (hi:i≤endI l):s.sect < s.sects.length:=by
 obtain ⟨m,hm⟩:=(g.grow hi (Nat.le_refl _)).sects
 have h1:=(g.okq hi).ok.here
 have h2:=congrArg List.length hm
 rw[List.length_append] at h2
 rw[h.len,h.sect,finP];omega
theorem OkG.room {l:List GLine} {i:Nat} {s:GS} (h:OkG l i s) (g:Goes l) (hi:i < endI l) (hk:s.sect < s.sects.length) (t:TA):(curA (passP l i) /2).toNat+(lwV t s.sect (curA (passP l i)) (l[i]'(by have:=endI_le l;omega))).1.length≤s.sects[s.sect].words.length:=by
 have hle:=endI_le l
 have hcur:=curA_get (g.okq (Nat.le_of_lt hi)).ok
 have ha:=(g.okq (Nat.le_of_lt hi)).ok.ats _ (List.mem_of_getElem? hcur)
 have hL:=g.lineS hi
 obtain ⟨b,hb,hab⟩:=(hL.grow (g.okq (Nat.le_of_lt hi)).ok).ats _ _ hcur
 obtain ⟨c,hc,hbc⟩:=(g.grow (i:=i+1) hi (Nat.le_refl _)).ats _ _ hb
 obtain ⟨a2,ha2,hw⟩:=h.wl _ _ (List.getElem?_eq_getElem hk)
 rw[h.sect] at ha2
 have e:c=a2:=by
  rw[finP] at ha2
  rw[hc] at ha2;injection ha2
 rw[hw,←e]
 generalize hx:l[i]'(by omega)=x at*
 obtain ⟨_,_,w1,w2⟩:=lwV_ok (t:=t) (sect:=s.sect) (p:=curA (passP l i)) (x:=x)
 have hsec (n:Nat) (hn:curA (passP l i)+2*(n:Int)≤c):(curA (passP l i) /2).toNat+n≤secN c:=by
  rw[secN];omega
 by_cases h0:(lwV t s.sect (curA (passP l i)) x).2=0
 ·by_cases h3:x.k=3∨x.k=4∨x.k=5
  ·obtain ⟨_,_,h4,h5⟩:=hL.word h3
   have hl:=(w2 h0).1 h3 h5
   refine hsec _ ?_
   rw[hl]
   rw[h4,List.getElem?_set_self (by have:=(List.getElem?_eq_some_iff.1 hcur).1;exact this)] at hb
   injection hb with hb
   omega
  ·rw[(w2 h0).2 h3]
   exact hsec 0 (by simp;omega)
 ·rw[w1 h0]
  exact hsec 0 (by simp;omega)
theorem fillS_get (l:List GSect) (a:List Int):∀ (k j:Nat) (y:GSect),(fillS l a k)[j]?=some y→∃ z,l[j]?=some z∧y.name=z.name∧((j < k→y.words=List.replicate (secN (a.getD j 0)) (numE 0))∧(k≤j→y=z))
 | 0,j,y,h=>⟨y,h,rfl,fun q=>absurd q (Nat.not_lt_zero _),fun _=>rfl⟩
 | k+1,j,y,h=>by
  rw[fillS,List.getElem?_modify] at h
  rcases hq:(fillS l a k)[j]? with _ | y0
  ·rw[hq] at h;cases h
  ·rw[hq] at h
   obtain ⟨z,h1,h2,h3,h4⟩:=fillS_get l a k j y0 hq
   by_cases e:k=j
   ·subst e
    simp at h
    refine ⟨z,h1,by rw[←h];exact h2,fun _=>by rw[←h,List.getD_eq_getElem?_getD],fun q=>by omega⟩
   ·simp[e] at h
    subst h
    exact ⟨z,h1,h2,fun q=>h3 (by omega),fun q=>h4 (by omega)⟩
theorem fillS_nm (l:List GSect) (a:List Int) (k:Nat):(fillS l a k).map GSect.name=l.map GSect.name:=by
 refine List.ext_getElem? fun j=>?_
 rw[List.getElem?_map,List.getElem?_map]
 rcases hq:(fillS l a k)[j]? with _ | y
 ·have:l.length≤j:=by have:=List.getElem?_eq_none_iff.1 hq;rwa [fillS_len] at this
  rw[List.getElem?_eq_none this]
 ·obtain ⟨z,h1,h2,_⟩:=fillS_get l a k j y hq
  rw[h1];simp[h2]
theorem g2_zero {l:List GLine} (g:Goes l):OkG l 0 (g2 l 0):=by
 have hF:=(g.okq (Nat.le_refl (endI l))).ok
 have hlen:(finP l).ats.length=(finP l).sects.length:=hF.len
 have hpos:0 < (finP l).sects.length:=by have:=hF.here;show 0 < (passP l (endI l)).sects.length;omega
 refine ⟨rfl,by rw[g2,List.length_replicate],fun j a ha=>?_,fun j h1 h2=>?_,fillS_nm _ _ _,fun j y hy=>?_,fun y hy w hw=>?_⟩
 ·have:j=0:=by have:=(List.getElem?_eq_some_iff.1 ha).1;simp[passP,zPS] at this;omega
  subst this
  have:a=0:=by simpa [passP,zPS] using ha.symm
  subst this
  rw[g2]
  simp[hpos]
 ·rw[g2]
  simp[h2]
 ·obtain ⟨z,h1,h2,h3,_⟩:=fillS_get _ _ _ j y hy
  have hj:=(List.getElem?_eq_some_iff.1 h1).1
  refine ⟨(finP l).ats[j]'(by omega),List.getElem?_eq_getElem _,?_⟩
  rw[h3 hj,List.length_replicate,List.getD_eq_getElem?_getD,List.getElem?_eq_getElem (by omega)];rfl
 ·obtain ⟨j,hj,rfl⟩:=List.mem_iff_getElem.1 hy
  obtain ⟨z,h1,h2,h3,_⟩:=fillS_get _ _ _ j _ (List.getElem?_eq_getElem hj)
  rw[h3 (List.getElem?_eq_some_iff.1 h1).1] at hw
  rw[List.eq_of_mem_replicate hw];exact num_ok 0
theorem g2_next {l:List GLine} (g:Goes l) {i:Nat} (hi:i < endI l) {s:GS} (h:OkG l i s) (hc:(goV (finT l) s (curG s) (l[i]'(by have:=endI_le l;omega))).2=0):OkG l (i+1) (goV (finT l) s (curG s) (l[i]'(by have:=endI_le l;omega))).1:=by
 have hle:=endI_le l
 obtain ⟨hcur,hcg⟩:=h.cur g (Nat.le_of_lt hi)
 have hk:=h.here g (Nat.le_of_lt hi)
 have hroom:=h.room g hi hk (finT l)
 have hL:=g.lineS hi
 have hq:=g.okq (i:=i+1) hi
 have hp:=g.okq (i:=i) (Nat.le_of_lt hi)
 have hG:=g.grow (i:=i+1) hi (Nat.le_refl _)
 rw[hcg] at hc⊢
 generalize hx:l[i]'(by omega)=x at*
 by_cases h6:x.k=6
 ·obtain ⟨h1,_,k,h3⟩:=hL.sect h6
  have e:goV (finT l) s (curA (passP l i)) x=(⟨s.sects,s.ats,lastS s.sects x.s s.sect s.sects.length⟩,0):=if_pos h6
  rw[e]
  obtain ⟨m,hm⟩:=hG.sects
  have hhere:=hq.ok.here
  have hfl:(passP l (i+1)).sect < (finP l).sects.length:=by rw[finP,hm,List.length_append];omega
  have hnd:(s.sects.map GSect.name).Nodup:=by rw[h.nm];exact (g.okq (Nat.le_refl _)).nodup
  have hnm:(s.sects[(passP l (i+1)).sect]'(by rw[h.len];exact hfl)).name=x.s:=by
   have a1:(s.sects.map GSect.name)[(passP l (i+1)).sect]?=some x.s:=by
    rw[h.nm,List.getElem?_map,finP,hm,List.getElem?_append_left hhere];exact h1
   rw[List.getElem?_map,List.getElem?_eq_getElem (by rw[h.len];exact hfl)] at a1
   injection a1
  refine ⟨lastS_eq (by rw[h.len];exact hfl) hnm hnd _ (by rw[h.len];exact hfl) (Nat.le_refl _),h.alen,fun j a ha=>?_,fun j g1 g2=>?_,h.nm,h.wl,h.ok⟩
  ·rw[h3] at ha
   by_cases hj:j < (passP l i).ats.length
   ·rw[List.getElem?_append_left hj] at ha
    exact h.ats j a ha
   ·rw[List.getElem?_append_right (by omega)] at ha
    have hl2:=(List.getElem?_eq_some_iff.1 ha).1
    rw[List.length_replicate] at hl2
    have:a=0:=by
     rw[List.getElem?_replicate] at ha
     split at ha
     ·injection ha with ha;exact ha.symm
     ·omega
    rw[this]
    refine h.zero j (by omega) ?_
    have a1:=hq.ok.len
    have a2:=congrArg List.length hm
    rw[List.length_append] at a2
    rw[h3,List.length_append,List.length_replicate] at a1
    rw[finP];omega
  ·exact h.zero j (by rw[h3,List.length_append] at g1;omega) g2
 ·have e:goV (finT l) s (curA (passP l i)) x=(⟨setW s.sects s.sect fun ws=>ovw ws (lwV (finT l) s.sect (curA (passP l i)) x).1 (curA (passP l i) /2).toNat,s.ats.set s.sect (curA (passP l i)+2*(lwV (finT l) s.sect (curA (passP l i)) x).1.length),s.sect⟩,(lwV (finT l) s.sect (curA (passP l i)) x).2):=if_neg h6
  rw[e] at hc⊢
  dsimp only at hc
  obtain ⟨v1,_,_,v2⟩:=lwV_ok (t:=finT l) (sect:=s.sect) (p:=curA (passP l i)) (x:=x)
  have v2:=v2 hc
  generalize lwV (finT l) s.sect (curA (passP l i)) x=W at*
  obtain ⟨ws,c⟩:=W
  dsimp only at hc v1 v2 hroom⊢
  have hpa:(passP l (i+1)).sect=(passP l i).sect∧(passP l (i+1)).ats=(passP l i).ats.set (passP l i).sect (curA (passP l i)+2*(ws.length:Int)):=by
   by_cases h3:x.k=3∨x.k=4∨x.k=5
   ·obtain ⟨_,a2,a3,a4⟩:=hL.word h3
    exact ⟨a2,by rw[a3,v2.1 h3 a4]⟩
   ·obtain ⟨_,a2,a3⟩:=hL.none (fun q=>by omega)
    refine ⟨a2,?_⟩
    rw[a3,v2.2 h3]
    refine (List.ext_getElem? fun j=>?_)
    rw[List.getElem?_set]
    by_cases e2:(passP l i).sect=j
    ·subst e2
     have:=curA_get hp.ok
     rw[this,if_pos rfl,if_pos (List.getElem?_eq_some_iff.1 this).1];simp
    ·rw[if_neg e2]
  refine ⟨by rw[hpa.1];exact h.sect,by dsimp only;rw[List.length_set];exact h.alen,fun j a ha=>?_,fun j g1 g2=>?_,?_,fun j y hy=>?_,fun y hy w hw=>?_⟩
  ·rw[hpa.2,List.getElem?_set] at ha
   dsimp only
   rw[List.getElem?_set,h.sect]
   by_cases e2:(passP l i).sect=j
   ·subst e2
    rw[if_pos rfl] at ha⊢
    rw[if_pos (by rw[h.alen,←h.len,←h.sect];exact hk)]
    split at ha
    ·exact ha
    ·cases ha
   ·rw[if_neg e2] at ha⊢
    exact h.ats j a ha
  ·dsimp only
   rw[hpa.2,List.length_set] at g1
   have hlt:=(List.getElem?_eq_some_iff.1 (curA_get hp.ok)).1
   rw[List.getElem?_set,h.sect,if_neg (by omega)]
   exact h.zero j g1 g2
  ·rw[←h.nm,setW]
   refine List.ext_getElem? fun j=>?_
   rw[List.getElem?_map,List.getElem?_map,List.getElem?_modify]
   cases s.sects[j]? with
   | none=>rfl
   | some y=>by_cases e2:s.sect=j<;>simp[e2]
  ·rw[setW,List.getElem?_modify] at hy
   rcases hq2:s.sects[j]? with _ | y0
   ·rw[hq2] at hy;cases hy
   ·rw[hq2] at hy
    obtain ⟨b,hb,hw⟩:=h.wl j y0 hq2
    refine ⟨b,hb,?_⟩
    by_cases e2:s.sect=j
    ·simp[e2] at hy
     rw[←hy]
     dsimp only
     rw[ovw_len,hw]
     subst e2
     rw[List.getElem?_eq_getElem hk] at hq2
     injection hq2 with hq2
     rw[←hq2];exact hroom
    ·simp[e2] at hy
     rw[←hy];exact hw
  ·rw[setW] at hy
   obtain ⟨j,hj,rfl⟩:=List.mem_iff_getElem.1 hy
   rw[List.length_modify] at hj
   rw[List.getElem_modify] at hw
   split at hw
   ·exact ovw_mem (h.ok _ (List.getElem_mem hj)) v1 w hw
   ·exact h.ok _ (List.getElem_mem hj) w hw
theorem g2_ok {l:List GLine} (g:Goes l):∀ i,i≤endI l→(∀ j,j < i→g2c l j=0)→OkG l i (g2 l i)
 | 0,_,_=>g2_zero g
 | i+1,hi,hc=>by
  have hle:=endI_le l
  have ih:=g2_ok g i (by omega) fun j hj=>hc j (by omega)
  have e:=g2_step (l:=l) (i:=i) (by omega)
  have:=g2_next g (i:=i) (by omega) ih (by rw[e];exact hc i (by omega))
  rwa [e] at this
end Go.Proofs.VI
