/- Contracts of functions, and what they rest on: l17tripe. -/
import Derived.Test.YtjlonhiojgljcaaGreatG1
set_option linter.unusedVariables false
set_option linter.unusedSimpArgs false
set_option maxRecDepth 10000
set_option maxHeartbeats 4000000
namespace Go.Proofs.VI
open Go
def At (b:List UInt8) (p:Int) (x:List UInt8):Prop:=∃ a r,b=a++(x++r)∧p=(a.length:Int)
theorem At.app {b x y:List UInt8} {p:Int} (h:At b p (x++y)):At b p x∧At b (p+x.length) y:=by
 obtain ⟨a,r,e1,e2⟩:=h
 exact ⟨⟨a,y++r,by rw[e1,List.append_assoc],e2⟩,⟨a++x,r,by rw[e1];simp,by rw[e2];simp⟩⟩
theorem nm_size {s:ByteArray} (h:isNm s=true):s.size≤6:=by
 rw[isNm,Bool.and_eq_true] at h
 have h:=h.1
 rw[form,Bool.and_eq_true] at h
 have:=inI_true.1 h.1
 omega
theorem bW_li (n:Int):((bW n).length:Int)=2:=rfl
theorem trip_word {b:List UInt8} {p n:Int} (h0:0≤n) (h1:n≤65535) (h:At b p (bW n)):getW b p=some (n,p+2):=by
 obtain ⟨a,r,rfl,rfl⟩:=h
 have hl:(a++(bW n++r)).length=a.length+(2+r.length):=by simp[bW];omega
 rw[getW,if_pos ⟨by omega,by omega⟩,Int.toNat_natCast]
 have e0:(a++(bW n++r)).getD a.length 0=w8 n:=by simp[bW]
 have e1:(a++(bW n++r)).getD (a.length+1) 0=w8 (n/256):=by simp[bW]
 rw[e0,e1,w8_toNat,w8_toNat]
 congr 2;omega
theorem trip_text {b:List UInt8} {p:Int} {s:ByteArray} (h0:s.size≤1000) (h:At b p (bT s)):getT b p=some (s,p+(bT s).length):=by
 have e:bT s=bW s.size++bl s:=by rw[bT,if_neg (by omega)]
 rw[e] at h⊢
 obtain ⟨g1,g2⟩:=h.app
 rw[getT,trip_word (by omega) (by omega) g1]
 obtain ⟨a,r,e1,e2⟩:=g2
 have hl:(bl s).length=s.size:=bl_len s
 have hw:(bW s.size).length=2:=rfl
 have hb:b.length=a.length+(s.size+r.length):=by rw[e1];simp[hl]
 rw[hw] at e2
 have hp:p+2=(a.length:Int):=by omega
 have this:bytes (bl s)=s:=by cases s;rfl
 have ht:(bl s++r).take s.size=bl s:=by rw[←hl,List.take_left]
 simp only
 rw[if_pos ⟨by omega,by omega⟩,hp,Int.toNat_natCast,Int.toNat_natCast,e1,List.drop_left,ht,this,List.length_append,hw]
 congr 2;omega
theorem trip_many {α:Type} {b:List UInt8} {P:Int→Option (α×Int)} (f:α→List UInt8):∀ (l:List α),(∀ x∈l,∀ p,At b p (f x)→P p=some (x,p+(f x).length))→∀ p,At b p (l.map f).flatten→manyO P l.length p=some (l,p+(l.map f).flatten.length)
 | [],_,p,_=>by simp[manyO,retO]
 | x::l,h,p,ha=>by
  rw[List.map_cons,List.flatten_cons] at ha
  obtain ⟨g1,g2⟩:=ha.app
  have h1:=h x List.mem_cons_self p g1
  have h2:=trip_many f l (fun y hy=>h y (List.mem_cons_of_mem _ hy)) _ g2
  rw[List.length_cons,manyO,bindO,h1]
  simp only
  rw[bindO,h2]
  simp only[retO,List.map_cons,List.flatten_cons,List.length_append]
  congr 2;omega
theorem trip_expr {b:List UInt8} {d:Nat} {e:GExpr} (x:OkX d e):∀ p,At b p (putE e)→exprO b d p=some (e,p+(putE e).length):=by
 induction x with
 | @num m n h0 h1=>
  intro p h
  have e:putE (.mk 1 n ⟨#[]⟩ [])=bW 1++bW n:=by rw[putE,if_pos (.inl rfl)]
  rw[e] at h⊢
  obtain ⟨g1,g2⟩:=h.app
  rw[exprO,bindO,trip_word (by omega) (by omega) g1]
  simp only
  rw[headO,if_pos (.inl rfl),bindO,trip_word h0 h1 (by rw[bW_li] at g2;exact g2)]
  simp only[retO,List.length_append,bW_len]
  congr 2;omega
 | @sect m n h0 h1=>
  intro p h
  have e:putE (.mk 11 n ⟨#[]⟩ [])=bW 11++bW n:=by rw[putE,if_pos (.inr rfl)]
  rw[e] at h⊢
  obtain ⟨g1,g2⟩:=h.app
  rw[exprO,bindO,trip_word (by omega) (by omega) g1]
  simp only
  rw[headO,if_pos (.inr rfl),bindO,trip_word h0 (by omega) (by rw[bW_li] at g2;exact g2)]
  simp only[retO,List.length_append,bW_len]
  congr 2;omega
 | @name m k s hk hs=>
  intro p h
  have hk1:¬ (k=1∨k=11):=by omega
  have e:putE (.mk k 0 s [])=bW k++bT s:=by rw[putE,if_neg hk1,if_pos hk]
  rw[e] at h⊢
  obtain ⟨g1,g2⟩:=h.app
  have ht:=trip_text (s:=s) (p:=p+2) (by have:=nm_size hs;omega) (by rw[bW_li] at g2;exact g2)
  rw[exprO,bindO,trip_word (by omega) (by omega) g1]
  simp only
  rw[headO,if_neg hk1,if_pos hk,bindO,ht]
  simp only[retO,List.length_append,bW_len]
  congr 2;omega
 | @here m=>
  intro p h
  have e:putE (.mk 3 0 ⟨#[]⟩ [])=bW 3:=by rw[putE,if_neg (by decide),if_neg (by decide),putL,List.append_nil]
  rw[e] at h⊢
  rw[exprO,bindO,trip_word (by omega) (by omega) h]
  simp only
  rw[headO,if_neg (by decide),if_neg (by decide)]
  rfl
 | @neg m a ha ih=>
  intro p h
  have e:putE (.mk 4 0 ⟨#[]⟩ [a])=bW 4++(([a].map putE).flatten):=by rw[putE,if_neg (by decide),if_neg (by decide),putL_eq]
  rw[e] at h⊢
  obtain ⟨g1,g2⟩:=h.app
  have hm:=trip_many (P:=exprO b m) putE [a] (fun x hx p hp=>by rw[List.mem_singleton.1 hx] at hp⊢;exact ih p hp) _ g2
  rw[exprO,bindO,trip_word (by omega) (by omega) g1]
  simp only
  rw[headO,if_neg (by decide),if_neg (by decide),bindO]
  rw[bW_li] at hm
  rw[show argsK 4=[a].length from rfl,hm]
  simp only[retO,List.length_append,bW_len]
  congr 2;omega
 | @two m k a c h0 h1 ha hb iha ihb=>
  intro p h
  have hk1:¬ (k=1∨k=11):=by omega
  have hk2:¬ (k=2∨k=12):=by omega
  have e:putE (.mk k 0 ⟨#[]⟩ [a,c])=bW k++(([a,c].map putE).flatten):=by rw[putE,if_neg hk1,if_neg hk2,putL_eq]
  rw[e] at h⊢
  obtain ⟨g1,g2⟩:=h.app
  have hm:=trip_many (P:=exprO b m) putE [a,c] (fun x hx p hp=>by
   have hx:x=a∨x=c:=by simpa using hx
   rcases hx with rfl | rfl
   ·exact iha p hp
   ·exact ihb p hp) _ g2
  have hka:argsK k=2:=by rw[argsK,if_neg (by omega),if_pos (inI_true.2 ⟨h0,h1⟩)]
  rw[exprO,bindO,trip_word (by omega) (by omega) g1]
  simp only
  rw[headO,if_neg hk1,if_neg hk2,bindO]
  rw[bW_li] at hm
  rw[hka,show (2:Nat)=[a,c].length from rfl,hm]
  simp only[retO,List.length_append,bW_len]
  congr 2;omega
end Go.Proofs.VI
