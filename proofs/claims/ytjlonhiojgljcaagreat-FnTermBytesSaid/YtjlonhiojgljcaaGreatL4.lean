/- VI: values, a private heap for each call, and what code comes to; part 4. -/
import Derived.Test.YtjlonhiojgljcaaGreatL3
import Derived.LoopN
section
set_option linter.unusedVariables false
set_option linter.unusedSimpArgs false
namespace Go.Proofs.VI
open Go
section
variable {P:Program} {w w':World} {κ κ' κ3:Gh} {m m':Nat→Addr} {n n':Nat} {s:Slots} {h h':Heap} {a:Act} {L L':AV→Value→Prop} {tt:TypeId→Option TI} {C:FuncId→List AV→AV→List (Option AV)→Prop}
theorem ok_nil {o:Oper} {K:Bool→Nat→AV→Heap→Prop} (R:Rel w κ m n s h a) (hr:(execOp a.eval o).run P w= .ok (.value (.slice none 0 0)) w) {k:Nat} (hk:K false (n+1) (.own n) (upd h n (some (.rows k [] [])))):OpOk P o K w κ m n s h a:=by
 unfold OpOk Oper.wp
 rw[hr]
 have hI:ImmMap w w κ κ:=fun b hb=>⟨hb,rfl⟩
 have hL:∀ v u,liveV w κ m n h v u→liveV w κ m (n+1) (upd h n (some (.rows k [] []))) v u:=
  liveV_move (Nat.le_succ _) fun i hi=> .inr ⟨by rw[upd_ne _ _ (by omega)],rfl,fun x hx=>⟨hx,rfl⟩⟩
 refine ⟨false,n+1,.own n,_,κ,m,_,hk,Nat.le_succ _,rfl,?_,?_,Stp.refl _ _,fun _ j hj=>upd_ne _ _ (by omega),fun _ _ _=>rfl,hL⟩
 ·refine ⟨Nat.lt_succ_self _,⟨_,_,_,rfl⟩,?_⟩
  rw[upd_eq]
  exact ⟨none,0,rfl,Nat.le_refl _,.inl rfl⟩
 ·refine R.move hI hL (fun id b hb=>?_) R.low (fun b id p hb=>Nat.lt_succ_of_lt (R.fresh b id p hb))
  by_cases e:id=n
  ·subst e
   rw[upd_eq] at hb
   injection hb with hb
   subst hb
   exact ⟨Nat.lt_succ_self _,.inl rfl⟩
  ·rw[upd_ne _ _ e] at hb
   exact ⟨Nat.lt_succ_of_lt (R.blk id b hb).1,relBlk_move hI hL ⟨_,rfl,fun q b hb=>⟨hb,rfl⟩⟩ rfl (R.blk id b hb).2⟩
theorem elemTI_sound {t:TypeId} {K:TI→Prop} (h:elemTI tt t K):∃ i0 e i,tt t=some i0∧i0.kind= .slice e∧tt e=some i∧K i:=by
 unfold elemTI at h
 split at h
 ·rename_i a b c e d ht
  unfold ty at h
  split at h
  ·rename_i i hi
   exact ⟨_,e,i,ht,rfl,hi,h⟩
  ·exact h.elim
 ·exact h.elim
theorem ty_sound {t:TypeId} {K:TI→Prop} (h:ty tt t K):∃ i,tt t=some i∧K i:=by
 unfold ty at h
 split at h
 ·rename_i i hi;exact ⟨i,hi,h⟩
 ·exact h.elim
theorem ok_moveT {o:Oper} {x:Operand} {K:Bool→Nat→AV→Heap→Prop} (R:Rel w κ m n s h a) (ho:o.op= .move x∨o.op= .assign x) (hx:opvT tt n s o.type x h K):OpOk P o K w κ m n s h a:=by
 unfold opvT at hx
 split at hx
 ·obtain ⟨_,_,i,_,_,_,hk⟩:=elemTI_sound hx
  refine ok_nil R ?_ hk
  unfold execOp
  rcases ho with ho | ho<;>rw[ho]<;>rfl
 ·exact ok_move R ho hx
theorem ok_load (T:TOk P tt) {o:Oper} {t:TypeId} {x:Operand} {K:Bool→Nat→AV→Heap→Prop} (R:Rel w κ m n s h a) (ho:o.op= .load t x) {i:TI} (ht:tt t=some i) {v:AV}
  (hx:relV w κ (liveV w κ m n h) none v (a.eval x)) (hk:load n i v h K):OpOk P o K w κ m n s h a:=by
 cases v<;>simp only[load] at hk
 case rp row c=>exact ok_load_rp T R ho ht hx hk
 case ptr id r c=>
  split at hk
  ·rename_i row hs hid
   have hB:=(R.blk id _ hid).2
   exact ok_load_own T R ho ht (B:= .box row hs) (r:=0) (row:=row) hid (fun _=>rfl) (fun j v hj=>by simpa [cellAt] using hj) (by simpa [cellOff] using ptr_addr hx hid) hk
  ·rename_i k rs hs hid
   obtain ⟨row,hrow,hk⟩:=hk
   exact ok_load_own T R ho ht (B:= .rows k rs hs) (r:=r) (row:=row) hid (fun e=>by simp[isBox] at e) (fun j v hj=>by simp[cellAt,hrow,hj]) (ptr_addr hx hid) hk
  ·exact hk.elim
theorem beq_len {a b:Nat} (h:Nat.beq a b=true):a=b:=Nat.eq_of_beq_eq_true h
theorem ok_store (T:TOk P tt) {o:Oper} {t:TypeId} {x y:Operand} {K:Bool→Nat→AV→Heap→Prop} (R:Rel w κ m n s h a) (ho:o.op= .store t x y) {i:TI} (ht:tt t=some i) {v v':AV}
  (hx:relV w κ (liveV w κ m n h) none v (a.eval x)) (hy:relV w κ (liveV w κ m n h) none v' (a.eval y)) (hk:store n i v v' h fun n h=>K true n .und h):OpOk P o K w κ m n s h a:=by
 cases v<;>simp only[store] at hk
 case ptr id r c=>
  cases hsz:Nat.beq v'.cells.length i.size with
  | false=>rw[hsz] at hk;exact hk.elim
  | true=>
   rw[hsz] at hk
   simp only[cond_true] at hk
   split at hk
   ·rename_i row hs hid
    exact ok_store_box T R ho ht hid hx hy (beq_len hsz) hk
   ·rename_i k rs hs hid
    obtain ⟨row,hrow,hk⟩:=hk
    exact ok_store_rows T R ho ht hid hrow hx hy (beq_len hsz) hk
   ·exact hk.elim
theorem Rel.unsl (R:Rel w κ m n s h a) {id off len k:Nat} {rs:List (List AV)} (hb:h id=some (.rows k rs [])) (hint:∀ r∈(rs.drop off).take len,∃ q z,r=[.int q z]) {u:Value} (hv:liveV w κ m n h (.sl id off len) u):
  ∃ κ' m',Rel w κ' m' (n+1) s (upd (upd h id none) n (some (.rows k ((rs.drop off).take len) []))) a∧Stp κ w κ' w∧liveV w κ' m' (n+1) (upd (upd h id none) n (some (.rows k ((rs.drop off).take len) []))) (.own n) u∧
   (∀ v u,liveV w κ m n h v u→liveV w κ' m' (n+1) (upd (upd h id none) n (some (.rows k ((rs.drop off).take len) []))) v u)∧∀ j,j < n→m' j=m j:=by
 obtain ⟨hid,hB⟩:=R.blk id _ hb
 obtain ⟨hol,A,cap,hu,hlc,hcap⟩:=sl_slice (show relV w κ (liveV w κ m n h) none (.sl id off len) u from hv) hb
 have hll:((rs.drop off).take len).length=len:=by simp;omega
 let κ':Gh:=fun b=>match κ b with
  | some (.key (i,[]))=>bif Nat.beq i id then some (.key (n,[])) else some (.key (i,[]))
  | x=>x
 let m':Nat→Addr:=fun j=>bif Nat.beq j n then ⟨(m id).block,(m id).off+off*k,none⟩ else m j
 have k1:∀ b,κ b=some (.key (id,[]))→κ' b=some (.key (n,[])):=fun b hb=>by simp[κ',hb,beqT]
 have k2:∀ b,κ b≠some (.key (id,[]))→κ' b=κ b:=fun b hb=>by
  simp only[κ']
  split
  ·rename_i i e
   by_cases ei:i=id
   ·subst ei;exact absurd e hb
   ·rw[beqF ei,cond_false,e]
  ·rfl
 have mn:m' n=⟨(m id).block,(m id).off+off*k,none⟩:=by simp[m',beqT]
 have mo:∀ j,j < n→m' j=m j:=fun j hj=>by simp only[m'];rw[beqF (by omega),cond_false]
 have hI:ImmMap w w κ κ':=fun b hb=>⟨by rw[k2 b (by rw[hb];simp),hb],rfl⟩
 have hn':upd (upd h id none) n (some (.rows k ((rs.drop off).take len) [])) n=some (.rows k ((rs.drop off).take len) []):=upd_eq _ _ _
 have hid':upd (upd h id none) n (some (.rows k ((rs.drop off).take len) [])) id=none:=by rw[upd_ne _ _ (by omega),upd_eq]
 have ho':∀ i,i≠n→i≠id→upd (upd h id none) n (some (.rows k ((rs.drop off).take len) [])) i=h i:=fun i h1 h2=>by rw[upd_ne _ _ h1,upd_ne _ _ h2]
 generalize upd (upd h id none) n (some (.rows k ((rs.drop off).take len) []))=h2 at hn' hid' ho'
 have hL:∀ v u,liveV w κ m n h v u→liveV w κ' m' (n+1) h2 v u:=liveV_keep (Nat.le_succ n) fun i hi=>by
  by_cases e:i=id
  ·subst e;exact .inl hid'
  ·refine .inr ⟨by rw[ho' i (by omega) e],mo i hi,fun _ _ k9 q hq=>hq.move fun hx=>⟨?_,rfl⟩⟩
   rw[k2 _ (by rw[hx];simpa using e),hx]
 have hown:liveV w κ' m' (n+1) h2 (.own n) u:=by
  refine ⟨Nat.lt_succ_self n,⟨A,len,cap,hu⟩,?_⟩
  rw[hn']
  refine ⟨A,cap,by rw[hll];exact hu,by rw[hll];exact hlc,?_⟩
  rcases hcap with e | ⟨hA,hsp,C,t,fr,g1,g2,g3,g4⟩
  ·exact .inl e
  ·refine .inr ⟨by rw[mn];exact hA,?_⟩
   rw[mn]
   exact ⟨rfl,C,t,fr,g1,g2,k1 _ g3,by simp only;rw[Nat.add_mul] at g4;omega⟩
 refine ⟨κ',m',R.move hI hL (fun i b hi=>?_) (fun b g hg=>?_) (fun b i p hg=>?_),⟨rfl,rfl,rfl,Nat.le_refl _,fun _ _ _=>rfl,fun b hb=>(hI b hb).1,fun b _ hb=>by rw[k2 b (by rw[hb];simp),hb],fun _ C _ _ h=>⟨C,h,rfl⟩⟩,hown,hL,mo⟩
 ·by_cases e:i=n
  ·subst e
   rw[hn'] at hi
   injection hi with hi
   subst hi
   refine ⟨Nat.lt_succ_self _,?_⟩
   rcases hB with e0 | ⟨hsp,C,t,fr,hw,hfr,hκ,hrows⟩
   ·subst e0;exact .inl (by simp)
   ·refine .inr ⟨by rw[mn],C,t,fr,by rw[mn];exact hw,hfr,by rw[mn];exact k1 _ hκ,relHRs_mk fun q row hq=>?_⟩
    rw[mn]
    have hq2:rs[off+q]?=some row:=by
     rw[List.getElem?_take] at hq
     split at hq
     ·rwa [List.getElem?_drop] at hq
     ·cases hq
    obtain ⟨d1,d2⟩:=relHRs_get hrows hq2
    refine ⟨d1,relHRow_mk fun j v hv=>?_⟩
    obtain ⟨qq,z,rfl⟩:=hint row (List.mem_of_getElem? hq)
    have hj:j=0:=by
     have:=(List.getElem?_eq_some_iff.1 hv).1
     simp at this;omega
    subst hj
    obtain ⟨u',hu1,hu2⟩:=relHRow_get d2 hv
    simp only[List.getElem?_cons_zero,Option.some.injEq] at hv
    subst hv
    refine ⟨u',?_,hu2⟩
    rw[←hu1]
    simp only
    congr 1
    rw[Nat.add_mul];omega
  ·by_cases e2:i=id
   ·subst e2;rw[hid'] at hi;cases hi
   ·rw[ho' i e e2] at hi
    obtain ⟨r1,r2⟩:=R.blk i b hi
    refine ⟨by omega,relBlk_move hI hL ⟨_,rfl,fun q b hb=>⟨?_,rfl⟩⟩ (mo i r1) r2⟩
    rw[k2 b (by rw[hb];simp;exact fun e3=>absurd e3 e2),hb]
 ·by_cases e:κ b=some (.key (id,[]))
  ·exact R.low b _ e
  ·rw[k2 b e] at hg;exact R.low b g hg
 ·by_cases e:κ b=some (.key (id,[]))
  ·rw[k1 b e] at hg;injection hg with hg;injection hg with hg;injection hg with hg _;omega
  ·rw[k2 b e] at hg;have:=R.fresh b i p hg;omega
theorem Oper.wp_mono2 {o:Oper} {K K':Act→World→Prop} {Q Q':Exit→Act→World→Prop} (h:∀ a w,K a w→K' a w) (hq:∀ e a w,¬ Q e a w) (hh:o.wp P a w K Q):o.wp P a w K' Q':=by
 unfold Oper.wp at*
 generalize (execOp a.eval o).run P w=r at*
 cases r with
 | ok x w'=>
  cases x with
  | value v=>exact h _ _ hh
  | skip=>exact h _ _ hh
  | defer d=>exact h _ _ hh
  | enter f args=>
   exact Calls.mono hh (fun e w'' he=>by
    cases e with
    | returned v=>exact h _ _ he
    | panicked c=>exact (hq _ _ _ he).elim
    | outgrown=>obtain ⟨_,_,hx⟩:=he;exact (hq _ _ _ hx).elim)
  | row row args=>exact Rows.mono hh (fun _ _ he=>h _ _ he)
  | _=>exact hh.elim
 | halt x w'=>
  cases x with
  | panic v=>exact (hq _ _ _ hh).elim
  | _=>exact hh.elim
theorem ok_storeV (T:TOk P tt) {o:Oper} {t:TypeId} {x y:Operand} {K:Bool→Nat→AV→Heap→Prop} (R:Rel w κ m n s h a) (ho:o.op= .store t x y) {i:TI} (ht:tt t=some i) {v v':AV}
  (hx:relV w κ (liveV w κ m n h) none v (a.eval x)) (hy:relV w κ (liveV w κ m n h) none v' (a.eval y)) (hk:storeV n i v v' h fun n h=>K true n .und h):OpOk P o K w κ m n s h a:=by
 unfold storeV at hk
 split at hk
 ·rename_i id off len
  split at hk
  ·rename_i k rs hb
   obtain ⟨hint,hk⟩:=hk
   obtain ⟨κ',m',R',ST,hown,hL,hm⟩:=R.unsl hb hint hy
   have hI:=ST.immMap R.low
   have hok:=ok_store (K:=fun f n v h=>f=true∧K f n v h) T R' ho ht (relV_move hI hL v none none _ .none_ hx) (show relV w κ' _ none (.own n) _ from hown) (by simpa only[true_and] using hk)
   unfold OpOk at hok⊢
   refine Oper.wp_mono2 (fun a' w' hp=>?_) (fun _ _ _ h=>h) hok
   obtain ⟨f,n',v2,h',κ2,m2,u,⟨hf,hk⟩,hn,h1,h2,h3,h4,h5,h6,h7⟩:=hp
   subst hf
   exact ⟨true,n',v2,h',κ2,m2,u,hk,by omega,h1,h2,h3,ST.trans h4,fun e=>(by cases e),fun j hj hne=>(h6 j (by omega) hne).trans (hm j hj),fun v u hv=>h7 v u (hL v u hv)⟩
  ·exact hk.elim
 ·exact ok_store T R ho ht hx hy hk
theorem opvP_mono:∀ {l:List (Nat×Operand)} {K K':List (Nat×AV)→Prop},(∀ ps,K ps→K' ps)→opvP s l K→opvP s l K'
 | [],K,K',hK,hk=>hK _ hk
 | (j,x)::l,K,K',hK,hk=>by
  simp only[opvP] at hk⊢
  unfold opv at hk⊢
  split at hk
  ·split at hk
   ·rename_i hv;exact opvP_mono (fun ps hp=>hK _ hp) hk
   ·exact hk.elim
  ·split at hk
   ·rename_i hv;exact opvP_mono (fun ps hp=>hK _ hp) hk
   ·exact hk.elim
  ·exact opvP_mono (fun ps hp=>hK _ hp) hk
  ·exact hk.elim
theorem opv_mono {x:Operand} {K K':AV→Prop} (hK:∀ v,K v→K' v) (hk:opv s x K):opv s x K':=by
 unfold opv at hk⊢
 split at hk
 ·split at hk
  ·rename_i hv;exact hK _ hk
  ·exact hk.elim
 ·split at hk
  ·rename_i hv;exact hK _ hk
  ·exact hk.elim
 ·exact hK _ hk
 ·exact hk.elim
theorem rel1_args {c:Nat} {v:AV} {l:List Operand} (hv:relL w κ L none c [v] (l.map a.eval)):∃ x,l=[x]∧relV w κ L none v (a.eval x):=by
 obtain ⟨u,us,e,h1,h2⟩:=hv
 have h2:us=[]:=h2
 subst h2
 match l,e with
 | [x],e=>
  simp at e
  exact ⟨x,rfl,by rw[e];exact h1⟩
theorem rel2_args {c:Nat} {v v':AV} {l:List Operand} (hv:relL w κ L none c [v,v'] (l.map a.eval)):∃ x y,l=[x,y]∧relV w κ L none v (a.eval x)∧relV w κ L none v' (a.eval y):=by
 obtain ⟨u,us,e,h1,h2⟩:=hv
 match l,e with
 | x::l,e=>
  simp at e
  obtain ⟨e1,e2⟩:=e
  rw[←e2] at h2
  obtain ⟨y,hy,h3⟩:=rel1_args (a:=a) (l:=l) h2
  exact ⟨x,y,by rw[hy],by rw[e1];exact h1,h3⟩
theorem aop_sound (T:TOk P tt) (HC:∀ f args res outs,C f args res outs→Contract P f args res outs) (R:Rel w κ m n s h a) {o:Oper} {K:Bool→Nat→AV→Heap→Prop} (hk:aop C tt n o s h K):OpOk P o K w κ m n s h a:=by
 unfold aop at hk
 split at hk
 ·rename_i x ho;exact ok_moveT R (.inl ho) hk
 ·rename_i x ho;exact ok_moveT R (.inr ho) hk
 ·rename_i c x y ho;exact ok_pick R ho hk
 ·rename_i t ho
  obtain ⟨i,ht,hk⟩:=ty_sound hk
  exact ok_alloc T R ho ht hk
 ·rename_i t x ho
  obtain ⟨i,ht,hk⟩:=ty_sound hk
  obtain ⟨v,hk,hv⟩:=opv_sound R hk
  cases hsz:Nat.beq v.cells.length i.size with
  | false=>rw[hsz] at hk;exact hk.elim
  | true=>rw[hsz] at hk;exact ok_box T R ho hv hk
 ·rename_i t parts ho
  obtain ⟨i,ht,hk⟩:=ty_sound hk
  split at hk
  ·rename_i fs hk0;exact ok_build T R ho ht hk0 hk
  ·exact hk.elim
 ·rename_i t len parts ho
  obtain ⟨i0,e,i,ht0,hk0,ht,hk⟩:=elemTI_sound hk
  obtain ⟨ps,g1,_,_⟩:=relP_get R hk
  cases hle:Nat.ble (len*i.size) 16777216 with
  | false=>rw[hle] at g1;exact g1.elim
  | true=>
   refine ok_buildSlice T R ho ht0 hk0 ht (Nat.le_of_ble_eq_true hle) (opvP_mono (fun ps hk=>?_) hk)
   rw[hle,cond_true,repl_eq] at hk
   exact hk
 ·rename_i t x ho
  obtain ⟨i,ht,hk⟩:=ty_sound hk
  obtain ⟨v,hk,hv⟩:=opv_sound R hk
  exact ok_load T R ho ht hv hk
 ·rename_i t x y ho
  obtain ⟨i,ht,hk⟩:=ty_sound hk
  obtain ⟨v,hk,hv⟩:=opv_sound R hk
  obtain ⟨v',hk,hv'⟩:=opv_sound R hk
  exact ok_storeV T R ho ht hv hv' hk
 ·rename_i x ho;exact ok_nilCheck R ho hk
 ·rename_i op t x y t' ho
  obtain ⟨i,ht,hk⟩:=ty_sound hk
  obtain ⟨v,hk,hv⟩:=opv_sound R hk
  obtain ⟨v',hk,hv'⟩:=opv_sound R hk
  exact ok_binV T R ho ht hv hv' hk
 ·rename_i op t x ho;cases op<;>exact ok_unOp R ho hk
 ·rename_i ta tb x ho;exact ok_convert T R ho hk
 ·rename_i f first captured ho
  split at hk
  ·rename_i hf;exact ok_makeFunc R ho hf hk
  ·exact hk.elim
 ·rename_i t l c ho
  obtain ⟨i0,e,i,ht0,hk0,ht,hk⟩:=elemTI_sound hk
  obtain ⟨v,hk,hv⟩:=opv_sound R hk
  obtain ⟨v',hk,hv'⟩:=opv_sound R hk
  split at hk
  ·obtain ⟨e,h0,hb,hk⟩:=hk
   subst e
   exact ok_make T R ho ht0 hk0 ht hv hv' h0 hb hk
  ·exact hk.elim
 ·rename_i t x lo hi ho
  obtain ⟨i,ht,hk⟩:=ty_sound hk
  exact ok_slice T R ho ht hk
 ·rename_i t x f ho
  obtain ⟨i,ht,hk⟩:=ty_sound hk
  cases hkd:i.kind with
  | struct fs=>
   cases hf:fs[f]? with
   | some q=>
    obtain ⟨off,ft⟩:=q
    refine ok_fieldAddr T R ho ht hkd hf (opv_mono (fun v hk=>?_) hk)
    rw[hkd] at hk
    simp only[hf] at hk
    exact hk
   | none=>
    obtain ⟨v,hk,_⟩:=opv_sound R hk
    rw[hkd] at hk
    simp only[hf] at hk
  | _=>
   obtain ⟨v,hk,_⟩:=opv_sound R hk
   rw[hkd] at hk
   exact hk.elim
 ·rename_i t x f ho
  obtain ⟨i,ht,hk⟩:=ty_sound hk
  cases hkd:i.kind with
  | struct fs=>
   cases hf:fs[f]? with
   | some q=>
    obtain ⟨off,ft⟩:=q
    cases htj:tt ft with
    | some j=>
     refine ok_field T R ho ht hkd hf htj (opv_mono (fun v hk=>?_) hk)
     rw[hkd] at hk
     simp only[hf,ty,htj] at hk
     exact hk
    | none=>
     obtain ⟨v,hk,_⟩:=opv_sound R hk
     rw[hkd] at hk
     simp only[hf,ty,htj] at hk
   | none=>
    obtain ⟨v,hk,_⟩:=opv_sound R hk
    rw[hkd] at hk
    simp only[hf] at hk
  | _=>
   obtain ⟨v,hk,_⟩:=opv_sound R hk
   rw[hkd] at hk
   exact hk.elim
 ·rename_i t x y ho
  obtain ⟨i0,e,i,ht0,hk0,ht,hk⟩:=elemTI_sound hk
  exact ok_indexAddr T R ho ht0 hk0 ht hk
 ·rename_i t x y ho
  obtain ⟨i,ht,hk⟩:=ty_sound hk
  cases hkd:i.kind with
  | str=>
   refine ok_index T R ho ht hkd (opv_mono (fun v hk=>opv_mono (fun v' hk=>?_) hk) hk)
   rw[hkd] at hk
   exact hk
  | _=>
   obtain ⟨v,hk,_⟩:=opv_sound R hk
   obtain ⟨v,hk,_⟩:=opv_sound R hk
   rw[hkd] at hk
   exact hk.elim
 ·rename_i x j ho;exact ok_extract R ho hk
 ·rename_i c ho
  split at hk
  ·rename_i b hc
   obtain ⟨vs,hk,hvs⟩:=opvs_sound (K:=fun _=>True) R hk
   split at hk
   ·split at hk
    ·rename_i t ts hts
     obtain ⟨i,ht,hk⟩:=ty_sound hk
     split at hk
     ·obtain ⟨x,hxs,hv⟩:=rel1_args (hvs 0)
      exact ok_len T R ho hc hts hxs ht hv hk
     ·exact hk.elim
    ·exact hk.elim
   ·split at hk
    ·rename_i t t2 ts hts
     obtain ⟨i0,e,i,ht0,hk0,ht,hk⟩:=elemTI_sound hk
     obtain ⟨j,ht2,hk⟩:=ty_sound hk
     split at hk
     ·obtain ⟨x,y,hxs,hv,hv'⟩:=rel2_args (hvs 0)
      split at hk
      ·rename_i e2 hkj;exact ok_append T R ho hc hxs hts ht0 hk0 ht ht2 (.inr ⟨_,hkj⟩) hv hv' hk
      ·rename_i hkj;exact ok_append T R ho hc hxs hts ht0 hk0 ht ht2 (.inl hkj) hv hv' hk
      ·exact hk.elim
     ·exact hk.elim
    ·exact hk.elim
   ·split at hk
    ·exact ok_minMax (mx:=true) rfl R ho hc rfl (hvs 0) hk
    ·exact hk.elim
   ·split at hk
    ·exact ok_minMax (mx:=false) rfl R ho hc rfl (hvs 0) hk
    ·exact hk.elim
   ·split at hk
    ·rename_i t ts hts
     obtain ⟨i0,e,i,ht0,hk0,ht,hk⟩:=elemTI_sound hk
     split at hk
     ·obtain ⟨x,y,hxs,hv,hv'⟩:=rel2_args (hvs 0)
      cases hsz:Nat.beq i.size 1 with
      | false=>rw[hsz] at hk;exact hk.elim
      | true=>
       rw[hsz] at hk
       exact ok_copy T R ho hc hxs hts ht0 hk0 ht (Nat.eq_of_beq_eq_true hsz) hv hv' hk
     ·exact hk.elim
    ·exact hk.elim
   ·split at hk
    ·rename_i t ts hts
     obtain ⟨i0,e,i,ht0,hk0,ht,hk⟩:=elemTI_sound hk
     split at hk
     ·obtain ⟨x,hxs,hv⟩:=rel1_args (hvs 0)
      exact ok_clear T R ho hc hxs hts ht0 hk0 ht hv hk
     ·exact hk.elim
    ·exact hk.elim
   ·exact hk.elim
  ·rename_i fo hc
   exact ok_call HC R ho hc hk
  ·exact hk.elim
 ·exact hk.elim
end
end Go.Proofs.VI
end
section
set_option linter.unusedVariables false
set_option linter.unusedSimpArgs false
namespace Go.Proofs.VI
open Go
section
variable {tt:TypeId→Option TI} {C:FuncId→List AV→AV→List (Option AV)→Prop}
def Ex1 {α:Type} (F:(α→Prop)→Prop):Prop:=∀ K,F K→∃ x,K x∧∀ K':α→Prop,K' x→F K'
def Ex2 {α β:Type} (F:(α→β→Prop)→Prop):Prop:=∀ K,F K→∃ x y,K x y∧∀ K':α→β→Prop,K' x y→F K'
def Ex3 {α β γ:Type} (F:(α→β→γ→Prop)→Prop):Prop:=∀ K,F K→∃ x y z,K x y z∧∀ K':α→β→γ→Prop,K' x y z→F K'
def Ex4 {α β γ δ:Type} (F:(α→β→γ→δ→Prop)→Prop):Prop:=∀ K,F K→∃ x y z t,K x y z t∧∀ K':α→β→γ→δ→Prop,K' x y z t→F K'
theorem closeHoles_ext:∀ {fuel:Nat} {take:Bool} {h:Heap} {vis:List Nat} {rs:List (List AV)} {hs:List Hole},Ex3 (closeHoles fuel take h vis rs hs)
 | 0,_,_,_,_,_=>fun K hk=>(show False from hk).elim
 | fuel+1,take,h,vis,rs,[]=>fun K hk=>⟨_,_,_,hk,fun K' h=>h⟩
 | fuel+1,take,h,vis,rs,⟨r,c,id⟩::hs=>fun K hk=>by
  obtain ⟨rs1,h1,vis1,hk,g1⟩:=closeHoles_ext (fuel:=fuel) _ (show closeHoles fuel take h vis rs hs _ from hk)
  split at hk
  ·rename_i k rs2 hs2 hid
   obtain ⟨rs3,h3,vis3,hk,g2⟩:=closeHoles_ext (fuel:=fuel) _ hk
   refine ⟨_,_,_,hk,fun K' hk'=>g1 _ ?_⟩
   rw[hid]
   exact g2 _ hk'
  ·rename_i hid
   refine ⟨_,_,_,hk,fun K' hk'=>g1 _ ?_⟩
   rw[hid]
   exact hk'
  ·exact hk.elim
theorem closeC_ext {fuel:Nat} {md:CMode} {h:Heap} {vis:List Nat} {v:AV}:Ex3 (closeC fuel md h vis v):=fun K hk=>by
 cases v with
 | own id=>
  simp only[closeC] at hk⊢
  split at hk
  ·rename_i k rs hs hid
   cases md<;>simp only at hk⊢
   case muts k'=>
    cases hb:Nat.beq k k' with
    | false=>rw[hb] at hk;exact hk.elim
    | true=>
     rw[hb] at hk
     simp only[cond_true] at hk⊢
     obtain ⟨rs1,h1,vis1,hk,g1⟩:=closeHoles_ext _ hk
     exact ⟨_,_,_,hk,fun K' hk'=>g1 _ hk'⟩
   case no=>exact ⟨_,_,_,hk,fun K' hk'=>hk'⟩
   all_goals
    obtain ⟨rs1,h1,vis1,hk,g1⟩:=closeHoles_ext _ hk
    exact ⟨_,_,_,hk,fun K' hk'=>g1 _ hk'⟩
  ·exact hk.elim
 | sl id off len=>
  simp only[closeC] at hk⊢
  split at hk
  ·rename_i k rs hs hid
   cases md<;>simp only at hk⊢
   all_goals
    obtain ⟨rs1,h1,vis1,hk,g1⟩:=closeHoles_ext _ hk
    exact ⟨_,_,_,hk,fun K' hk'=>g1 _ hk'⟩
  ·exact hk.elim
 | ptr id r c=>
  simp only[closeC] at hk⊢
  split at hk
  ·cases md<;>simp only at hk⊢
   ·obtain ⟨rs1,h1,vis1,hk,g1⟩:=closeHoles_ext _ hk
    split at hk
    ·exact ⟨_,_,_,hk,fun K' hk'=>g1 _ hk'⟩
    ·exact hk.elim
   ·split at hk
    ·obtain ⟨rs1,h1,vis1,hk,g1⟩:=closeHoles_ext _ hk
     split at hk
     ·exact ⟨_,_,_,hk,fun K' hk'=>g1 _ hk'⟩
     ·exact hk.elim
    ·exact hk.elim
   ·split at hk
    ·obtain ⟨rs1,h1,vis1,hk,g1⟩:=closeHoles_ext _ hk
     split at hk
     ·exact ⟨_,_,_,hk,fun K' hk'=>g1 _ hk'⟩
     ·exact hk.elim
    ·exact hk.elim
  ·cases md<;>simp only at hk⊢
   obtain ⟨row,h1,hk⟩:=hk
   exact ⟨_,_,_,hk,fun K' hk'=>⟨row,h1,hk'⟩⟩
  ·exact hk.elim
 | ow k rows=>exact hk.elim
 | pb row=>exact hk.elim
 | agg l=>exact hk.elim
 | tup l=>exact hk.elim
 | fn f c=>exact hk.elim
 | _=>exact ⟨_,_,_,hk,fun K' hk'=>hk'⟩
theorem closeCs_ext {fuel:Nat} {md:CMode}:∀ {cs:List AV} {h:Heap} {vis:List Nat},Ex3 (closeCs fuel md h vis cs)
 | [],h,vis=>fun K hk=>⟨_,_,_,hk,fun K' h=>h⟩
 | v::cs,h,vis=>fun K hk=>by
  obtain ⟨v1,h1,vis1,hk,g1⟩:=closeC_ext _ (show closeC fuel md h vis v _ from hk)
  obtain ⟨cs2,h2,vis2,hk,g2⟩:=closeCs_ext _ hk
  exact ⟨_,_,_,hk,fun K' hk'=>g1 _ (g2 _ hk')⟩
theorem closeM_ext {fuel:Nat}:∀ {cs:List AV} {ks:List Nat} {h:Heap} {vis:List Nat},Ex3 (closeM fuel ks h vis cs)
 | [],ks,h,vis=>fun K hk=>⟨_,_,_,hk,fun K' h=>h⟩
 | v::cs,ks,h,vis=>fun K hk=>by
  obtain ⟨v1,h1,vis1,hk,g1⟩:=closeC_ext _ (show closeC fuel (.muts (hdN ks)) h vis v _ from hk)
  obtain ⟨cs2,h2,vis2,hk,g2⟩:=closeM_ext _ hk
  exact ⟨_,_,_,hk,fun K' hk'=>g1 _ (g2 _ hk')⟩
theorem closeA_ext {fuel:Nat} {md:CMode} {h:Heap} {vis:List Nat} {v:AV}:Ex3 (closeA fuel md h vis v):=fun K hk=>by
 cases v with
 | agg cs=>
  cases md with
  | muta ks=>
   obtain ⟨cs2,h2,vis2,hk,g2⟩:=closeM_ext _ (show closeM fuel ks h vis cs _ from hk)
   exact ⟨_,_,_,hk,fun K' hk'=>g2 _ hk'⟩
  | _=>
   obtain ⟨cs2,h2,vis2,hk,g2⟩:=closeCs_ext _ hk
   exact ⟨_,_,_,hk,fun K' hk'=>g2 _ hk'⟩
 | fn f cs=>
  obtain ⟨cs2,h2,vis2,hk,g2⟩:=closeCs_ext _ (show closeCs fuel .ro h vis cs _ from hk)
  exact ⟨_,_,_,hk,fun K' hk'=>g2 _ hk'⟩
 | _=>simp only[closeA] at hk⊢;exact closeC_ext _ hk
theorem closeAs_ext {fuel:Nat} {md:CMode}:∀ {cs:List AV} {h:Heap} {vis:List Nat},Ex3 (closeAs fuel md h vis cs)
 | [],h,vis=>fun K hk=>⟨_,_,_,hk,fun K' h=>h⟩
 | v::cs,h,vis=>fun K hk=>by
  obtain ⟨v1,h1,vis1,hk,g1⟩:=closeA_ext _ (show closeA fuel md h vis v _ from hk)
  obtain ⟨cs2,h2,vis2,hk,g2⟩:=closeAs_ext _ hk
  exact ⟨_,_,_,hk,fun K' hk'=>g1 _ (g2 _ hk')⟩
theorem closeV_ext {fuel:Nat} {md:CMode} {h:Heap} {vis:List Nat} {v:AV}:Ex3 (closeV fuel md h vis v):=fun K hk=>by
 cases v with
 | tup cs=>
  obtain ⟨cs2,h2,vis2,hk,g2⟩:=closeAs_ext _ (show closeAs fuel md h vis cs _ from hk)
  exact ⟨_,_,_,hk,fun K' hk'=>g2 _ hk'⟩
 | _=>simp only[closeV] at hk⊢;exact closeA_ext _ hk
theorem closes_ext {fuel:Nat}:∀ {vs:List AV} {ms:List CMode} {h:Heap} {vis:List Nat},Ex3 (closes fuel h vis vs ms)
 | [],ms,h,vis=>fun K hk=>⟨_,_,_,hk,fun K' h=>h⟩
 | v::vs,[],h,vis=>fun K hk=>(show False from hk).elim
 | v::vs,md::ms,h,vis=>fun K hk=>by
  obtain ⟨v1,h1,vis1,hk,g1⟩:=closeV_ext _ (show closeV fuel md h vis v _ from hk)
  obtain ⟨cs2,h2,vis2,hk,g2⟩:=closes_ext (ms:=ms) _ hk
  exact ⟨_,_,_,hk,fun K' hk'=>g1 _ (g2 _ hk')⟩
theorem backM_ext:∀ {ks:List Nat} {cs os:List AV} {h:Heap},Ex1 (backM ks h cs os)
 | ks,[],os,h=>fun K hk=>⟨_,hk,fun K' h=>h⟩
 | ks,v::cs,os,h=>fun K hk=>by
  have lift:∀ {h:Heap},backM (tlN ks) h cs (tlA os) K→∃ x,K x∧∀ K':Heap→Prop,K' x→backM (tlN ks) h cs (tlA os) K':=fun hk=>backM_ext _ hk
  cases v with
  | own id=>
   have hk:backS (hdN ks) h (.own id) (hdA os) (fun h=>backM (tlN ks) h cs (tlA os) K):=hk
   show ∃ x,K x∧∀ K':Heap→Prop,K' x→backS (hdN ks) h (.own id) (hdA os) (fun h=>backM (tlN ks) h cs (tlA os) K')
   generalize hdA os=o at hk⊢
   cases o with
   | ow k2 rows=>
    simp only[backS] at hk⊢
    cases hb:Nat.beq (hdN ks) k2 with
    | false=>rw[hb] at hk;exact hk.elim
    | true=>rw[hb] at hk;exact lift hk
   | _=>exact hk.elim
  | _=>exact lift hk
theorem backs_ext:∀ {vs:List AV} {ms:List CMode} {outs:List (Option AV)} {h:Heap},Ex1 (backs h vs ms outs)
 | [],_,_,h=>fun K hk=>⟨_,hk,fun K' h=>h⟩
 | v::vs,[],outs,h=>fun K hk=>(show False from hk).elim
 | v::vs,md::ms,[],h=>fun K hk=>by cases md<;>exact hk.elim
 | v::vs,md::ms,o::outs,h=>fun K hk=>by
  have lift:∀ {h:Heap},backs h vs ms outs K→∃ x,K x∧∀ K':Heap→Prop,K' x→backs h vs ms outs K':=fun hk=>backs_ext _ hk
  cases md with
  | ro=>exact lift hk
  | mv=>exact lift hk
  | frz=>exact lift hk
  | no=>exact lift hk
  | muts k=>
   cases o with
   | none=>exact (show False from hk).elim
   | some o=>
    have hk:backS k h v o (fun h=>backs h vs ms outs K):=hk
    show ∃ x,K x∧∀ K':Heap→Prop,K' x→backS k h v o (fun h=>backs h vs ms outs K')
    cases v with
    | own id=>
     cases o with
     | ow k2 rows=>
      simp only[backS] at hk⊢
      cases hb:Nat.beq k k2 with
      | false=>rw[hb] at hk;exact hk.elim
      | true=>rw[hb] at hk;exact lift hk
     | _=>exact hk.elim
    | _=>exact hk.elim
  | muta ks=>
   cases o with
   | none=>exact (show False from hk).elim
   | some o=>
    cases o with
    | agg os=>
     cases v with
     | agg cs=>
      obtain ⟨x,hk,g⟩:=backM_ext _ (show backM ks h cs os (fun h=>backs h vs ms outs K) from hk)
      obtain ⟨y,hk,g2⟩:=lift hk
      exact ⟨y,hk,fun K' hk'=>g _ (g2 _ hk')⟩
     | _=>exact (show False from hk).elim
    | _=>cases v<;>exact (show False from hk).elim
  | «mut»=>
   cases o with
   | none=>exact (show False from hk).elim
   | some o=>
    have hk:backC h v o (fun h=>backs h vs ms outs K):=hk
    show ∃ x,K x∧∀ K':Heap→Prop,K' x→backC h v o (fun h=>backs h vs ms outs K')
    cases v with
    | ptr id r c=>
     cases o with
     | pb row=>
      have hk:forceL row (fun row=>backs (upd h id (some (.box row []))) vs ms outs K):=hk
      rw[forceL_eq] at hk
      obtain ⟨x,hk,g⟩:=lift hk
      exact ⟨x,hk,fun K' hk'=>(show forceL row _ from by rw[forceL_eq];exact g _ hk')⟩
     | _=>exact hk.elim
    | own id=>exact hk.elim
    | agg l=>exact hk.elim
    | tup l=>exact hk.elim
    | _=>exact lift hk
theorem openC_ext {n:Nat} {h:Heap} {v:AV}:Ex3 (openC n h v):=fun K hk=>by
 cases v with
 | ow k rs=>exact ⟨_,_,_,hk,fun K' h=>h⟩
 | pb row=>
  have hk:forceL row (fun row=>K (n+1) (.ptr n 0 0) (upd h n (some (.box row [])))):=hk
  rw[forceL_eq] at hk
  exact ⟨_,_,_,hk,fun K' hk'=>(show forceL row _ from by rw[forceL_eq];exact hk')⟩
 | agg r=>exact (show False from hk).elim
 | tup r=>exact (show False from hk).elim
 | _=>exact ⟨_,_,_,hk,fun K' h=>h⟩
theorem openCs_ext:∀ {cs:List AV} {n:Nat} {h:Heap},Ex3 (openCs n h cs)
 | [],n,h=>fun K hk=>⟨_,_,_,hk,fun K' h=>h⟩
 | v::cs,n,h=>fun K hk=>by
  obtain ⟨n1,v1,h1,hk,g1⟩:=openC_ext _ (show openC n h v _ from hk)
  obtain ⟨n2,cs2,h2,hk,g2⟩:=openCs_ext _ hk
  exact ⟨_,_,_,hk,fun K' hk'=>g1 _ (g2 _ hk')⟩
theorem openA_ext {n:Nat} {h:Heap} {v:AV}:Ex3 (openA n h v):=fun K hk=>by
 cases v with
 | agg cs=>
  obtain ⟨n2,cs2,h2,hk,g2⟩:=openCs_ext _ (show openCs n h cs _ from hk)
  exact ⟨_,_,_,hk,fun K' hk'=>g2 _ hk'⟩
 | _=>simp only[openA] at hk⊢;exact openC_ext _ hk
theorem openAs_ext:∀ {cs:List AV} {n:Nat} {h:Heap},Ex3 (openAs n h cs)
 | [],n,h=>fun K hk=>⟨_,_,_,hk,fun K' h=>h⟩
 | v::cs,n,h=>fun K hk=>by
  obtain ⟨n1,v1,h1,hk,g1⟩:=openA_ext _ (show openA n h v _ from hk)
  obtain ⟨n2,cs2,h2,hk,g2⟩:=openAs_ext _ hk
  exact ⟨_,_,_,hk,fun K' hk'=>g1 _ (g2 _ hk')⟩
theorem openV_ext {n:Nat} {h:Heap} {v:AV}:Ex3 (openV n h v):=fun K hk=>by
 cases v with
 | tup cs=>
  obtain ⟨n2,cs2,h2,hk,g2⟩:=openAs_ext _ (show openAs n h cs _ from hk)
  exact ⟨_,_,_,hk,fun K' hk'=>g2 _ hk'⟩
 | _=>simp only[openV] at hk⊢;exact openA_ext _ hk
theorem call_ext {n:Nat} {f:FuncId} {vs:List AV} {h:Heap}:Ex4 (call C n f vs h):=fun K hk=>by
 obtain ⟨ms,res,outs,hk⟩:=hk
 obtain ⟨args,h2,vis,hk,g1⟩:=closes_ext _ hk
 obtain ⟨hC,hv,hk⟩:=hk
 cases hal:alive h2 vis with
 | false=>rw[hal] at hk;exact hk.elim
 | true=>
  rw[hal] at hk
  obtain ⟨h3,hk,g2⟩:=backs_ext _ hk
  obtain ⟨n4,v4,h4,hk,g3⟩:=openV_ext _ hk
  refine ⟨_,_,_,_,hk,fun K' hk'=>⟨ms,res,outs,g1 _ ⟨hC,hv,?_⟩⟩⟩
  rw[hal]
  exact g2 _ (g3 _ hk')
theorem opv_ext {s:Slots} {x:Operand}:Ex1 (opv s x):=fun K hk=>by
 unfold opv at hk⊢
 split at hk
 ·split at hk
  ·rename_i hv;exact ⟨_,hk,fun K' h=>h⟩
  ·exact hk.elim
 ·split at hk
  ·rename_i hv;exact ⟨_,hk,fun K' h=>h⟩
  ·exact hk.elim
 ·exact ⟨_,hk,fun K' h=>h⟩
 ·exact hk.elim
theorem opvs_ext {s:Slots}:∀ {l:List Operand},Ex1 (opvs s l)
 | []=>fun K hk=>⟨_,hk,fun K' h=>h⟩
 | x::l=>fun K hk=>by
  obtain ⟨v,hk,g1⟩:=opv_ext _ (show opv s x _ from hk)
  obtain ⟨vs,hk,g2⟩:=opvs_ext _ hk
  exact ⟨_,hk,fun K' hk'=>g1 _ (g2 _ hk')⟩
theorem opvP_ext {s:Slots}:∀ {l:List (Nat×Operand)},Ex1 (opvP s l)
 | []=>fun K hk=>⟨_,hk,fun K' h=>h⟩
 | (i,x)::l=>fun K hk=>by
  obtain ⟨v,hk,g1⟩:=opv_ext _ (show opv s x _ from hk)
  obtain ⟨vs,hk,g2⟩:=opvP_ext _ hk
  exact ⟨_,hk,fun K' hk'=>g1 _ (g2 _ hk')⟩
theorem opvO_ext {s:Slots} {x:Option Operand}:Ex1 (opvO s x):=fun K hk=>by
 cases x with
 | none=>exact ⟨_,hk,fun K' h=>h⟩
 | some x=>
  obtain ⟨v,hk,g1⟩:=opv_ext _ (show opv s x _ from hk)
  exact ⟨_,hk,fun K' hk'=>g1 _ hk'⟩
theorem ty_ext {t:TypeId}:Ex1 (ty tt t):=fun K hk=>by
 unfold ty at hk⊢
 split at hk
 ·exact ⟨_,hk,fun K' h=>h⟩
 ·exact hk.elim
theorem elemTI_ext {t:TypeId}:Ex1 (elemTI tt t):=fun K hk=>by
 unfold elemTI at hk⊢
 split at hk
 ·exact ty_ext _ hk
 ·exact hk.elim
theorem opvT_ext {n:Nat} {s:Slots} {t:TypeId} {x:Operand} {h:Heap}:Ex4 (opvT tt n s t x h):=fun K hk=>by
 unfold opvT at hk⊢
 split at hk
 ·obtain ⟨i,hk,g1⟩:=elemTI_ext _ hk
  exact ⟨_,_,_,_,hk,fun K' hk'=>g1 _ hk'⟩
 ·obtain ⟨i,hk,g1⟩:=opv_ext _ hk
  exact ⟨_,_,_,_,hk,fun K' hk'=>g1 _ hk'⟩
theorem takeN_ext:∀ {row:List AV} {c n:Nat},Ex1 (takeN row c n)
 | [],c+1,n=>fun K hk=>(show False from hk).elim
 | v::row,c+1,n=>fun K hk=>takeN_ext (row:=row) (c:=c) (n:=n) K hk
 | row,0,0=>fun K hk=>⟨_,by unfold takeN at hk;exact hk,fun K' h=>by unfold takeN;exact h⟩
 | [],0,n+1=>fun K hk=>(show False from hk).elim
 | v::row,0,n+1=>fun K hk=>by
  have hk:force v (fun v=>takeN row 0 n fun l=>K (v::l)):=hk
  rw[force_eq] at hk
  obtain ⟨l,hk,g1⟩:=takeN_ext _ hk
  exact ⟨_,hk,fun K' hk'=>(show force v _ from by rw[force_eq];exact g1 _ hk')⟩
theorem ofCells_ext {t:TI} {cs:List AV}:Ex1 (ofCells t cs):=fun K hk=>by
 unfold ofCells at hk⊢
 cases h:isStruct t with
 | true=>rw[h] at hk;exact ⟨_,hk,fun K' h=>h⟩
 | false=>
  rw[h] at hk
  simp only[cond_false] at hk
  split at hk
  ·exact ⟨_,hk,fun K' h=>h⟩
  ·exact hk.elim
theorem holeAt_ext {box:Bool} {r c:Nat}:∀ {hs:List Hole} {f:Nat→Prop} {g:Prop},holeAt hs box r c f g→(∃ i,f i∧∀ (f':Nat→Prop) (g':Prop),f' i→holeAt hs box r c f' g')∨(g∧∀ (f':Nat→Prop) (g':Prop),g'→holeAt hs box r c f' g')
 | [],f,g,hk=> .inr ⟨hk,fun f' g' h=>h⟩
 | ⟨r',c',id⟩::hs,f,g,hk=>by
  simp only[holeAt] at hk⊢
  cases hb:Nat.beq c' c with
  | false=>
   rw[hb] at hk
   exact holeAt_ext (hs:=hs) hk
  | true=>
   rw[hb] at hk
   simp only[cond_true] at hk⊢
   cases box with
   | true=>exact .inl ⟨_,hk,fun f' g' h=>h⟩
   | false=>
    simp only[cond_false] at hk⊢
    obtain ⟨b,hb,hk⟩:=hk
    cases b with
    | true=>exact .inl ⟨_,hk,fun f' g' h=>⟨true,hb,h⟩⟩
    | false=>
     rcases holeAt_ext (hs:=hs) hk with ⟨i,h1,h2⟩ | ⟨h1,h2⟩
     ·exact .inl ⟨i,h1,fun f' g' h=>⟨false,hb,h2 f' g' h⟩⟩
     ·exact .inr ⟨h1,fun f' g' h=>⟨false,hb,h2 f' g' h⟩⟩
theorem openCells_ext {box:Bool} {r:Nat}:∀ {cs:List AV} {c n:Nat} {hs:List Hole} {h:Heap},Ex4 (openCells n h box r c cs hs)
 | [],c,n,hs,h=>fun K hk=>⟨_,_,_,_,hk,fun K' h=>h⟩
 | v::cs,c,n,hs,h=>fun K hk=>by
  simp only[openCells] at hk⊢
  rcases holeAt_ext hk with ⟨i,hk,g1⟩ | ⟨hk,g1⟩
  ·obtain ⟨n2,l2,hs2,h2,hk,g2⟩:=openCells_ext _ hk
   exact ⟨_,_,_,_,hk,fun K' hk'=>g1 _ _ (g2 _ hk')⟩
  ·split at hk
   ·obtain ⟨n2,l2,hs2,h2,hk,g2⟩:=openCells_ext _ hk
    exact ⟨_,_,_,_,hk,fun K' hk'=>g1 _ _ (g2 _ hk')⟩
   ·exact hk.elim
   ·exact hk.elim
   ·exact hk.elim
   ·obtain ⟨n2,l2,hs2,h2,hk,g2⟩:=openCells_ext _ hk
    exact ⟨_,_,_,_,hk,fun K' hk'=>g1 _ _ (g2 _ hk')⟩
theorem load_ext {n:Nat} {t:TI} {v:AV} {h:Heap}:Ex4 (load n t v h):=fun K hk=>by
 cases v<;>simp only[load] at hk⊢
 case rp row c=>
  obtain ⟨cs,hk,g1⟩:=takeN_ext _ hk
  obtain ⟨v,hk,g2⟩:=ofCells_ext _ hk
  exact ⟨_,_,_,_,hk,fun K' hk'=>g1 _ (g2 _ hk')⟩
 case ptr id r c=>
  split at hk
  ·obtain ⟨cs,hk,g1⟩:=takeN_ext _ hk
   obtain ⟨n2,cs2,hs2,h2,hk,g2⟩:=openCells_ext _ hk
   obtain ⟨v,hk,g3⟩:=ofCells_ext _ hk
   exact ⟨_,_,_,_,hk,fun K' hk'=>g1 _ (g2 _ (g3 _ hk'))⟩
  ·obtain ⟨row,hrow,hk⟩:=hk
   obtain ⟨cs,hk,g1⟩:=takeN_ext _ hk
   obtain ⟨n2,cs2,hs2,h2,hk,g2⟩:=openCells_ext _ hk
   obtain ⟨v,hk,g3⟩:=ofCells_ext _ hk
   exact ⟨_,_,_,_,hk,fun K' hk'=>⟨row,hrow,g1 _ (g2 _ (g3 _ hk'))⟩⟩
  ·exact hk.elim
theorem holesOf_ext:∀ {cs:List AV} {r c:Nat},Ex2 (holesOf r c cs)
 | [],r,c=>fun K hk=>⟨_,_,hk,fun K' h=>h⟩
 | v::cs,r,c=>fun K hk=>by
  have go:∀ {K:List AV→List Hole→Prop},holesOf r (c+1) cs K→∃ x y,K x y∧∀ K':List AV→List Hole→Prop,K' x y→holesOf r (c+1) cs K':=fun hk=>holesOf_ext _ hk
  cases v<;>simp only[holesOf] at hk⊢
  case fn f cap=>
   cases cap with
   | nil=>
    obtain ⟨x,y,hk,g⟩:=go hk
    exact ⟨_,_,hk,fun K' hk'=>g _ hk'⟩
   | cons=>exact hk.elim
  all_goals
   obtain ⟨x,y,hk,g⟩:=go hk
   exact ⟨_,_,hk,fun K' hk'=>g _ hk'⟩
theorem setCells_ext:∀ {row:List AV} {c:Nat} {cs:List AV},Ex1 (setCells row c cs)
 | [],c+1,cs=>fun K hk=>(show False from hk).elim
 | v::row,c+1,cs=>fun K hk=>by
  obtain ⟨l,hk,g⟩:=setCells_ext _ (show setCells row c cs _ from hk)
  exact ⟨_,hk,fun K' hk'=>g _ hk'⟩
 | row,0,[]=>fun K hk=>⟨_,by unfold setCells at hk;exact hk,fun K' h=>by unfold setCells;exact h⟩
 | [],0,v::cs=>fun K hk=>(show False from hk).elim
 | x::row,0,v::cs=>fun K hk=>by
  obtain ⟨l,hk,g⟩:=setCells_ext _ (show setCells row 0 cs _ from hk)
  exact ⟨_,hk,fun K' hk'=>g _ hk'⟩
theorem keepHoles_ext {box:Bool} {r c n:Nat}:∀ {hs:List Hole},Ex1 (keepHoles hs box r c n)
 | []=>fun K hk=>⟨_,hk,fun K' h=>h⟩
 | ⟨r',c',id⟩::hs=>fun K hk=>by
  simp only[keepHoles] at hk⊢
  cases hb:(Nat.ble c c'&&Nat.blt c' (c+n)) with
  | false=>
   rw[hb] at hk
   obtain ⟨l,hk,g⟩:=keepHoles_ext _ (show keepHoles hs box r c n _ from hk)
   exact ⟨_,hk,fun K' hk'=>g _ hk'⟩
  | true=>
   rw[hb] at hk
   simp only[cond_true] at hk⊢
   cases box with
   | true=>exact keepHoles_ext _ hk
   | false=>
    simp only[cond_false] at hk⊢
    obtain ⟨b,hb,hk⟩:=hk
    cases b with
    | true=>
     obtain ⟨l,hk,g⟩:=keepHoles_ext _ hk
     exact ⟨_,hk,fun K' hk'=>⟨true,hb,g _ hk'⟩⟩
    | false=>
     obtain ⟨l,hk,g⟩:=keepHoles_ext _ hk
     exact ⟨_,hk,fun K' hk'=>⟨false,hb,g _ hk'⟩⟩
theorem store_ext {n:Nat} {t:TI} {x v:AV} {h:Heap}:Ex2 (store n t x v h):=fun K hk=>by
 cases x<;>simp only[store] at hk⊢
 case ptr id r c=>
  cases hsz:Nat.beq v.cells.length t.size with
  | false=>rw[hsz] at hk;exact hk.elim
  | true=>
   rw[hsz] at hk
   simp only[cond_true] at hk⊢
   split at hk
   ·obtain ⟨hs1,hk,g1⟩:=keepHoles_ext _ hk
    obtain ⟨cs2,hs2,hk,g2⟩:=holesOf_ext _ hk
    obtain ⟨row3,hk,g3⟩:=setCells_ext _ hk
    exact ⟨_,_,hk,fun K' hk'=>g1 _ (g2 _ (g3 _ hk'))⟩
   ·obtain ⟨row,hrow,hk⟩:=hk
    obtain ⟨hs1,hk,g1⟩:=keepHoles_ext _ hk
    obtain ⟨cs2,hs2,hk,g2⟩:=holesOf_ext _ hk
    obtain ⟨row3,hk,g3⟩:=setCells_ext _ hk
    exact ⟨_,_,hk,fun K' hk'=>⟨row,hrow,g1 _ (g2 _ (g3 _ hk'))⟩⟩
   ·exact hk.elim
end
end Go.Proofs.VI
end
section
set_option linter.unusedVariables false
set_option linter.unusedSimpArgs false
namespace Go.Proofs.VI
open Go
section
variable {tt:TypeId→Option TI} {C:FuncId→List AV→AV→List (Option AV)→Prop}
theorem neg_ext {v:AV}:Ex1 (neg v):=fun K hk=>by
 cases v<;>simp only[neg] at hk⊢
 all_goals exact ⟨_,hk,fun K' h=>h⟩
theorem binInt_ext {op:BinOp} {k:IntKind} {a b:Int}:Ex1 (binInt op k a b):=fun K hk=>by
 cases op<;>simp only[binInt,cmpInt] at hk⊢
 all_goals first
  | exact ⟨_,hk,fun K' h=>h⟩
  | exact ⟨_,hk.2,fun K' h=>⟨hk.1,h⟩⟩
  | exact hk.elim
theorem binStr_ext {op:BinOp} {a b:ByteArray}:Ex1 (binStr op a b):=fun K hk=>by
 cases op<;>simp only[binStr] at hk⊢
 all_goals first
  | exact ⟨_,hk,fun K' h=>h⟩
  | exact ⟨_,hk.2,fun K' h=>⟨hk.1,h⟩⟩
  | exact hk.elim
theorem binV_ext {i:TI} {op:BinOp} {x y:AV}:Ex1 (binV i op x y):=fun K hk=>by
 unfold binV at hk⊢
 split at hk
 ·split at hk
  ·obtain ⟨h0,hk⟩:=hk
   exact ⟨_,hk,fun K' h=>⟨h0,h⟩⟩
  ·obtain ⟨h0,hk⟩:=hk
   exact ⟨_,hk,fun K' h=>⟨h0,h⟩⟩
  ·rename_i op' n1 n2
   split at hk
   ·rename_i hd
    obtain ⟨v,hk,g⟩:=binInt_ext _ hk
    refine ⟨v,hk,fun K' h=>?_⟩
    cases op'<;>first | exact g _ h | exact absurd rfl (by first | exact n1 | exact n2)
   ·exact hk.elim
 ·exact binStr_ext _ hk
 ·split at hk
  ·exact hk.elim
  ·rename_i e es he
   split at hk
   ·rename_i r hr
    cases op<;>simp only at hk⊢
    all_goals exact ⟨_,hk,fun K' h=>h⟩
   ·exact hk.elim
 ·rename_i n1 n2 n3
  split at hk
  ·rename_i hkd
   split at hk
   ·rename_i a b h1 h2
    cases op<;>simp only at hk⊢
    all_goals exact ⟨_,hk,fun K' h=>h⟩
   ·exact hk.elim
  ·exact hk.elim
theorem minMax_ext {mx:Bool}:∀ {vs:List AV} {v:AV},Ex1 (minMax mx v vs)
 | [],v=>fun K hk=>⟨_,by unfold minMax at hk;exact hk,fun K' h=>by unfold minMax;exact h⟩
 | x::vs,v=>fun K hk=>by
  cases x<;>simp only[minMax] at hk⊢
  cases v<;>simp only at hk⊢
  exact minMax_ext _ hk
theorem storeV_ext {n:Nat} {t:TI} {x v:AV} {h:Heap}:Ex2 (storeV n t x v h):=fun K hk=>by
 unfold storeV at hk
 split at hk
 ·split at hk
  ·rename_i hb
   obtain ⟨_,_,hk2,g⟩:=store_ext _ hk.2
   refine ⟨_,_,hk2,fun K' h=>?_⟩
   unfold storeV
   simp only[hb]
   exact ⟨hk.1,g _ h⟩
  ·exact hk.elim
 ·rename_i hne
  obtain ⟨_,_,hk2,g⟩:=store_ext _ hk
  refine ⟨_,_,hk2,fun K' h=>?_⟩
  unfold storeV
  split
  ·exact absurd rfl (hne _ _ _)
  ·exact g _ h
theorem copyV_ext {x y:AV} {h:Heap}:Ex2 (copyV x y h):=fun K hk=>by
 unfold copyV at hk
 split at hk
 ·rename_i id off len
  split at hk
  ·rename_i k rs hb
   split at hk
   ·rename_i k' ys
    cases hq:(Nat.beq k 1&&Nat.beq k' 1) with
    | false=>rw[hq] at hk;exact hk.elim
    | true=>
     rw[hq] at hk
     refine ⟨_,_,hk.2.2,fun K' h=>?_⟩
     unfold copyV
     simp only[hb,hq,cond_true]
     exact ⟨hk.1,hk.2.1,h⟩
   ·exact hk.elim
  ·exact hk.elim
 ·exact hk.elim
theorem clearV_ext {z:List AV} {x:AV} {h:Heap}:Ex2 (clearV z x h):=fun K hk=>by
 unfold clearV at hk
 split at hk
 ·split at hk
  ·rename_i k rs hb
   split at hk
   ·cases hq:Nat.beq k 1 with
    | false=>rw[hq] at hk;exact hk.elim
    | true=>
     rw[hq] at hk
     refine ⟨_,_,hk,fun K' h=>?_⟩
     unfold clearV
     simp only[hb,hq,cond_true]
     exact h
   ·exact hk.elim
  ·exact hk.elim
 ·exact hk.elim
theorem lenV_ext {i:TI} {x:AV} {h:Heap}:Ex1 (lenV i x h):=fun K hk=>by
 unfold lenV at hk⊢
 split at hk
 ·split at hk
  ·exact ⟨_,hk,fun K' h=>h⟩
  ·exact hk.elim
 ·split at hk
  ·exact ⟨_,hk,fun K' h=>h⟩
  ·exact ⟨_,hk,fun K' h=>h⟩
  ·split at hk
   ·exact ⟨_,hk,fun K' h=>h⟩
   ·exact hk.elim
  ·split at hk
   ·exact ⟨_,hk,fun K' h=>h⟩
   ·exact hk.elim
  ·exact hk.elim
 ·exact hk.elim
theorem bounds_ext {lo hi:Option AV} {len:Nat}:Ex2 (bounds lo hi len):=fun K hk=>by
 unfold bounds at hk⊢
 split at hk
 ·split at hk
  ·exact ⟨_,_,hk.2.2,fun K' h=>⟨hk.1,hk.2.1,h⟩⟩
  ·exact ⟨_,_,hk,fun K' h=>h⟩
  ·exact hk.elim
 ·split at hk
  ·exact ⟨_,_,hk.2.2.2,fun K' h=>⟨hk.1,hk.2.1,hk.2.2.1,h⟩⟩
  ·exact ⟨_,_,hk.2.2,fun K' h=>⟨hk.1,hk.2.1,h⟩⟩
  ·exact hk.elim
 ·exact hk.elim
theorem sliceV_ext {i:TI} {x:AV} {lo hi:Option AV} {h:Heap}:Ex1 (sliceV tt i x lo hi h):=fun K hk=>by
 unfold sliceV at hk⊢
 split at hk
 ·split at hk
  ·obtain ⟨l,u,hk,g⟩:=bounds_ext _ hk
   exact ⟨_,hk,fun K' h=>g _ h⟩
  ·exact hk.elim
 ·obtain ⟨e,hk,g0⟩:=ty_ext _ hk
  split at hk
  ·obtain ⟨l,u,hk,g⟩:=bounds_ext _ hk
   exact ⟨_,hk,fun K' h=>g0 _ (g _ h)⟩
  ·rename_i k rs _
   cases hb:Nat.beq k e.size with
   | false=>rw[hb] at hk;exact hk.elim
   | true=>
    rw[hb] at hk
    simp only[cond_true] at hk
    obtain ⟨l,u,hk,g⟩:=bounds_ext _ hk
    refine ⟨_,hk,fun K' h=>g0 _ ?_⟩
    simp only[hb,cond_true]
    exact g (fun l u=>K' _) h
  ·split at hk
   ·rename_i k rs hs hid
    cases hb:Nat.beq k e.size with
    | false=>rw[hb] at hk;exact hk.elim
    | true=>
     rw[hb] at hk
     simp only[cond_true] at hk
     obtain ⟨l,u,hk,g⟩:=bounds_ext _ hk
     refine ⟨_,hk,fun K' h=>g0 _ ?_⟩
     simp only[hid,hb,cond_true]
     exact g (fun l u=>K' _) h
   ·exact hk.elim
  ·split at hk
   ·rename_i k rs hs hid
    cases hb:Nat.beq k e.size with
    | false=>rw[hb] at hk;exact hk.elim
    | true=>
     rw[hb] at hk
     simp only[cond_true] at hk
     obtain ⟨l,u,hk,g⟩:=bounds_ext _ hk
     refine ⟨_,hk,fun K' h=>g0 _ ?_⟩
     simp only[hid,hb,cond_true]
     exact g (fun l u=>K' _) h
   ·exact hk.elim
  ·exact hk.elim
 ·exact hk.elim
theorem appendTo_ext {n:Nat} {t:TI} {base:List (List AV)} {hs:List Hole} {h:Heap} {x:AV}:Ex3 (appendTo n t base hs h x):=fun K hk=>by
 cases x<;>simp only[appendTo] at hk⊢
 case nils=>exact ⟨_,_,_,hk.2,fun K' h=>⟨hk.1,h⟩⟩
 case ro k rows=>
  cases hb:Nat.beq k t.size with
  | false=>rw[hb] at hk;exact hk.elim
  | true=>rw[hb] at hk;exact ⟨_,_,_,hk.2.2,fun K' h=>⟨hk.1,hk.2.1,h⟩⟩
 case str s=>
  cases hb:Nat.beq t.size 1 with
  | false=>rw[hb] at hk;exact hk.elim
  | true=>rw[hb] at hk;exact ⟨_,_,_,hk.2,fun K' h=>⟨hk.1,h⟩⟩
 case own id=>
  split at hk
  ·rename_i k rs hs hid
   cases hb:Nat.beq k t.size with
   | false=>rw[hb] at hk;exact hk.elim
   | true=>rw[hb] at hk;exact ⟨_,_,_,hk.2.2,fun K' h=>⟨hk.1,hk.2.1,h⟩⟩
  ·exact hk.elim
 case sl id off len=>
  split at hk
  ·rename_i k rs hid
   cases hb:Nat.beq k t.size with
   | false=>rw[hb] at hk;exact hk.elim
   | true=>rw[hb] at hk;exact ⟨_,_,_,hk.2.2.2,fun K' h=>⟨hk.1,hk.2.1,hk.2.2.1,h⟩⟩
  ·exact hk.elim
theorem append_ext {n:Nat} {t:TI} {x y:AV} {h:Heap}:Ex3 (append n t x y h):=fun K hk=>by
 cases x<;>simp only[append] at hk⊢
 case nils=>exact appendTo_ext _ hk
 case own id=>
  split at hk
  ·rename_i k rs hs hid
   cases hb:Nat.beq k t.size with
   | false=>rw[hb] at hk;exact hk.elim
   | true=>
    rw[hb] at hk
    obtain ⟨h0,hk⟩:=hk
    obtain ⟨a,b,c,hk,g⟩:=appendTo_ext _ hk
    exact ⟨a,b,c,hk,fun K' h=>⟨h0,g _ h⟩⟩
  ·exact hk.elim
 case sl id off len=>
  split at hk
  ·rename_i k rs hid
   cases hb:Nat.beq k t.size with
   | false=>rw[hb] at hk;exact hk.elim
   | true=>rw[hb] at hk;exact appendTo_ext _ hk
  ·exact hk.elim
theorem br_ext {c:AV} {s:Slots} {x y:Operand}:Ex1 (fun K=>br c (opv s x K) (opv s y K)):=fun K hk=>by
 cases c<;>simp only[br] at hk⊢
 case tt=>exact opv_ext _ hk
 case ff=>exact opv_ext _ hk
 case bool b=>
  cases b with
  | true=>
   obtain ⟨v,hk,g⟩:=opv_ext _ (hk.1 rfl)
   exact ⟨v,hk,fun K' h=>⟨fun _=>g _ h,fun e=>(by cases e)⟩⟩
  | false=>
   obtain ⟨v,hk,g⟩:=opv_ext _ (hk.2 rfl)
   exact ⟨v,hk,fun K' h=>⟨fun e=>(by cases e),fun _=>g _ h⟩⟩
theorem partsCells_ext {fs:List (Nat×TypeId)}:∀ {ps:List (Nat×AV)} {cells:List AV},Ex1 (partsCells tt fs cells ps)
 | [],cells=>fun K hk=>⟨_,hk,fun K' h=>h⟩
 | (i,v)::ps,cells=>fun K hk=>by
  simp only[partsCells] at hk⊢
  split at hk
  ·rename_i off t hf
   split at hk
   ·rename_i ti ht
    cases hb:(plainV v&&Nat.beq v.cells.length ti.size) with
    | false=>rw[hb] at hk;exact hk.elim
    | true=>
     rw[hb] at hk
     obtain ⟨cs,hk,g1⟩:=setCells_ext _ hk
     obtain ⟨cs,hk,g2⟩:=partsCells_ext _ hk
     exact ⟨_,hk,fun K' h=>g1 _ (g2 _ h)⟩
   ·exact hk.elim
  ·exact hk.elim
theorem setAt_ext:∀ {l:List (List AV)} {i:Nat} {x:List AV},Ex1 (setAt l i x)
 | [],0,x=>fun K hk=>(show False from hk).elim
 | v::l,0,x=>fun K hk=>⟨_,hk,fun K' h=>h⟩
 | [],i+1,x=>fun K hk=>(show False from hk).elim
 | v::l,i+1,x=>fun K hk=>by
  obtain ⟨cs,hk,g1⟩:=setAt_ext _ (show setAt l i x _ from hk)
  exact ⟨_,hk,fun K' h=>g1 _ h⟩
theorem rowsOfParts_ext {size:Nat}:∀ {ps:List (Nat×AV)} {rows:List (List AV)},Ex1 (rowsOfParts size rows ps)
 | [],rows=>fun K hk=>⟨_,hk,fun K' h=>h⟩
 | (i,v)::ps,rows=>fun K hk=>by
  simp only[rowsOfParts] at hk⊢
  cases hb:(plainV v&&Nat.beq v.cells.length size) with
  | false=>rw[hb] at hk;exact hk.elim
  | true=>
   rw[hb] at hk
   obtain ⟨cs,hk,g1⟩:=setAt_ext _ hk
   obtain ⟨cs,hk,g2⟩:=rowsOfParts_ext _ hk
   exact ⟨_,hk,fun K' h=>g1 _ (g2 _ h)⟩
theorem holesOfRows_ext:∀ {rows:List (List AV)} {r:Nat},Ex2 (holesOfRows r rows)
 | [],r=>fun K hk=>⟨_,_,hk,fun K' h=>h⟩
 | row::rows,r=>fun K hk=>by
  obtain ⟨a,b,hk,g1⟩:=holesOf_ext _ (show holesOf r 0 row _ from hk)
  obtain ⟨c,d,hk,g2⟩:=holesOfRows_ext _ hk
  exact ⟨_,_,hk,fun K' h=>g1 _ (g2 _ h)⟩
theorem aop_ext {n:Nat} {o:Oper} {s:Slots} {h:Heap}:Ex4 (aop C tt n o s h):=fun K hk=>by
 unfold aop at hk⊢
 split at hk
 ·exact opvT_ext _ hk
 ·exact opvT_ext _ hk
 ·obtain ⟨v,hk,g1⟩:=opv_ext _ hk
  obtain ⟨v,hk,g2⟩:=br_ext _ hk
  exact ⟨_,_,_,_,hk,fun K' h=>g1 _ (g2 _ h)⟩
 ·obtain ⟨i,hk,g0⟩:=ty_ext _ hk
  exact ⟨_,_,_,_,hk,fun K' h=>g0 _ h⟩
 ·obtain ⟨i,hk,g0⟩:=ty_ext _ hk
  obtain ⟨v,hk,g1⟩:=opv_ext _ hk
  cases hsz:Nat.beq v.cells.length i.size with
  | false=>rw[hsz] at hk;exact hk.elim
  | true=>
   rw[hsz] at hk
   obtain ⟨a,b,hk,g2⟩:=holesOf_ext _ hk
   refine ⟨_,_,_,_,hk,fun K' h=>g0 _ (g1 _ ?_)⟩
   rw[hsz]
   exact g2 _ h
 ·obtain ⟨i,hk,g0⟩:=ty_ext _ hk
  split at hk
  ·rename_i fs hk0
   obtain ⟨ps,hk,g1⟩:=opvP_ext _ hk
   obtain ⟨cs,hk,g2⟩:=partsCells_ext _ hk
   refine ⟨_,_,_,_,hk,fun K' h=>g0 _ ?_⟩
   rw[hk0]
   exact g1 _ (g2 _ h)
  ·exact hk.elim
 ·rename_i t len parts ho
  obtain ⟨i,hk,g0⟩:=elemTI_ext _ hk
  obtain ⟨ps,hk,g1⟩:=opvP_ext _ hk
  cases hle:Nat.ble (len*i.size) 16777216 with
  | false=>rw[hle] at hk;exact hk.elim
  | true=>
   rw[hle] at hk
   simp only[cond_true] at hk
   rw[repl_eq] at hk
   obtain ⟨rows,hk,g2⟩:=rowsOfParts_ext _ hk
   obtain ⟨rows,hs,hk,g3⟩:=holesOfRows_ext _ hk
   refine ⟨_,_,_,_,hk,fun K' h=>g0 _ (g1 _ ?_)⟩
   rw[hle]
   simp only[cond_true]
   rw[repl_eq]
   exact g2 _ (g3 _ h)
 ·obtain ⟨i,hk,g0⟩:=ty_ext _ hk
  obtain ⟨v,hk,g1⟩:=opv_ext _ hk
  obtain ⟨_,_,_,_,hk,g2⟩:=load_ext _ hk
  exact ⟨_,_,_,_,hk,fun K' h=>g0 _ (g1 _ (g2 _ h))⟩
 ·obtain ⟨i,hk,g0⟩:=ty_ext _ hk
  obtain ⟨v,hk,g1⟩:=opv_ext _ hk
  obtain ⟨v',hk,g2⟩:=opv_ext _ hk
  obtain ⟨_,_,hk,g3⟩:=storeV_ext _ hk
  exact ⟨_,_,_,_,hk,fun K' h=>g0 _ (g1 _ (g2 _ (g3 _ h)))⟩
 ·obtain ⟨v,hk,g1⟩:=opv_ext _ hk
  split at hk
  ·split at hk
   ·rename_i hid
    refine ⟨_,_,_,_,hk,fun K' h=>g1 _ ?_⟩
    simp only[hid]
    exact h
   ·exact hk.elim
  ·exact ⟨_,_,_,_,hk,fun K' h=>g1 _ h⟩
  ·exact ⟨_,_,_,_,hk,fun K' h=>g1 _ h⟩
  ·exact hk.elim
 ·obtain ⟨i,hk,g0⟩:=ty_ext _ hk
  obtain ⟨v,hk,g1⟩:=opv_ext _ hk
  obtain ⟨v',hk,g2⟩:=opv_ext _ hk
  obtain ⟨_,hk,g3⟩:=binV_ext _ hk
  exact ⟨_,_,_,_,hk,fun K' h=>g0 _ (g1 _ (g2 _ (g3 _ h)))⟩
 ·rename_i op t x ho
  obtain ⟨v,hk,g1⟩:=opv_ext _ hk
  cases op<;>simp only at hk⊢
  ·split at hk
   ·exact ⟨_,_,_,_,hk,fun K' h=>g1 _ h⟩
   ·exact hk.elim
  ·obtain ⟨v,hk,g2⟩:=neg_ext _ hk
   exact ⟨_,_,_,_,hk,fun K' h=>g1 _ (g2 _ h)⟩
 ·obtain ⟨ta,hk,g0⟩:=ty_ext _ hk
  obtain ⟨tb,hk,g1⟩:=ty_ext _ hk
  obtain ⟨v,hk,g2⟩:=opv_ext _ hk
  split at hk
  ·rename_i k1 e1
   split at hk
   ·rename_i k2 e2
    split at hk
    ·refine ⟨_,_,_,_,hk,fun K' h=>g0 _ (g1 _ (g2 _ ?_))⟩
     simp only[e1,e2]
     exact h
    ·exact hk.elim
   ·exact hk.elim
  ·rename_i e1
   split at hk
   ·rename_i e2
    split at hk
    ·refine ⟨_,_,_,_,hk,fun K' h=>g0 _ (g1 _ (g2 _ ?_))⟩
     simp only[e1,e2]
     exact h
    ·exact hk.elim
   ·rename_i e e2
    obtain ⟨te,hk,g3⟩:=ty_ext _ hk
    split at hk
    ·rename_i e3
     split at hk
     ·refine ⟨_,_,_,_,hk,fun K' h=>g0 _ (g1 _ (g2 _ ?_))⟩
      simp only[e1,e2]
      refine g3 _ ?_
      simp only[e3]
      exact h
     ·exact hk.elim
    ·exact hk.elim
   ·exact hk.elim
  ·rename_i e e1
   obtain ⟨te,hk,g3⟩:=ty_ext _ hk
   split at hk
   ·rename_i e3
    split at hk
    ·rename_i e2
     split at hk
     ·obtain ⟨a1,a2,hk⟩:=hk
      refine ⟨_,_,_,_,hk,fun K' h=>g0 _ (g1 _ (g2 _ ?_))⟩
      simp only[e1]
      refine g3 _ ?_
      simp only[e3,e2]
      exact ⟨a1,a2,h⟩
     ·split at hk
      ·rename_i hid
       obtain ⟨a1,a2,hk⟩:=hk
       refine ⟨_,_,_,_,hk,fun K' h=>g0 _ (g1 _ (g2 _ ?_))⟩
       simp only[e1]
       refine g3 _ ?_
       simp only[e3,e2,hid]
       exact ⟨a1,a2,h⟩
      ·exact hk.elim
     ·split at hk
      ·rename_i hid
       obtain ⟨a1,a2,hk⟩:=hk
       refine ⟨_,_,_,_,hk,fun K' h=>g0 _ (g1 _ (g2 _ ?_))⟩
       simp only[e1]
       refine g3 _ ?_
       simp only[e3,e2,hid]
       exact ⟨a1,a2,h⟩
      ·exact hk.elim
     ·exact hk.elim
    ·exact hk.elim
   ·exact hk.elim
  ·exact hk.elim
 ·rename_i f first captured ho
  split at hk
  ·rename_i hf
   obtain ⟨vs,hk,g1⟩:=opvs_ext _ hk
   exact ⟨_,_,_,_,hk,fun K' h=>g1 _ h⟩
  ·exact hk.elim
 ·obtain ⟨i,hk,g0⟩:=elemTI_ext _ hk
  obtain ⟨v,hk,g1⟩:=opv_ext _ hk
  obtain ⟨v',hk,g2⟩:=opv_ext _ hk
  split at hk
  ·obtain ⟨a1,a2,a3,hk⟩:=hk
   exact ⟨_,_,_,_,hk,fun K' h=>g0 _ (g1 _ (g2 _ ⟨a1,a2,a3,h⟩))⟩
  ·exact hk.elim
 ·obtain ⟨i,hk,g0⟩:=ty_ext _ hk
  obtain ⟨v,hk,g1⟩:=opv_ext _ hk
  obtain ⟨lo,hk,g2⟩:=opvO_ext _ hk
  obtain ⟨hi,hk,g3⟩:=opvO_ext _ hk
  obtain ⟨v,hk,g4⟩:=sliceV_ext _ hk
  exact ⟨_,_,_,_,hk,fun K' h=>g0 _ (g1 _ (g2 _ (g3 _ (g4 _ h))))⟩
 ·obtain ⟨i,hk,g0⟩:=ty_ext _ hk
  obtain ⟨v,hk,g1⟩:=opv_ext _ hk
  split at hk
  ·rename_i fs e1
   split at hk
   ·rename_i off ft e2
    split at hk
    ·split at hk
     ·rename_i hid
      refine ⟨_,_,_,_,hk,fun K' h=>g0 _ (g1 _ ?_)⟩
      simp only[e1,e2,hid]
      exact h
     ·exact hk.elim
    ·refine ⟨_,_,_,_,hk,fun K' h=>g0 _ (g1 _ ?_)⟩
     simp only[e1,e2]
     exact h
    ·exact hk.elim
   ·exact hk.elim
  ·exact hk.elim
 ·obtain ⟨i,hk,g0⟩:=ty_ext _ hk
  obtain ⟨v,hk,g1⟩:=opv_ext _ hk
  split at hk
  ·rename_i fs e1
   split at hk
   ·rename_i off ft e2
    obtain ⟨j,hk,g2⟩:=ty_ext _ hk
    split at hk
    ·obtain ⟨cs,hk,g3⟩:=takeN_ext _ hk
     obtain ⟨v,hk,g4⟩:=ofCells_ext _ hk
     refine ⟨_,_,_,_,hk,fun K' h=>g0 _ (g1 _ ?_)⟩
     simp only[e1,e2]
     exact g2 _ (g3 _ (g4 _ h))
    ·exact hk.elim
   ·exact hk.elim
  ·exact hk.elim
 ·obtain ⟨i,hk,g0⟩:=elemTI_ext _ hk
  obtain ⟨v,hk,g1⟩:=opv_ext _ hk
  obtain ⟨v',hk,g2⟩:=opv_ext _ hk
  split at hk
  ·split at hk
   ·rename_i k rows _
    obtain ⟨a1,row,a2,hk⟩:=hk
    cases hb:Nat.beq k i.size with
    | false=>rw[hb] at hk;exact hk.elim
    | true=>
     rw[hb] at hk
     refine ⟨_,_,_,_,hk,fun K' h=>g0 _ (g1 _ (g2 _ ⟨a1,row,a2,?_⟩))⟩
     rw[hb];exact h
   ·split at hk
    ·rename_i k rows hs hid
     obtain ⟨a1,a2,hk⟩:=hk
     cases hb:Nat.beq k i.size with
     | false=>rw[hb] at hk;exact hk.elim
     | true=>
      rw[hb] at hk
      refine ⟨_,_,_,_,hk,fun K' h=>g0 _ (g1 _ (g2 _ ?_))⟩
      simp only[hid,hb]
      exact ⟨a1,a2,h⟩
    ·exact hk.elim
   ·split at hk
    ·rename_i k rows hs hid
     obtain ⟨a1,a2,hk⟩:=hk
     cases hb:Nat.beq k i.size with
     | false=>rw[hb] at hk;exact hk.elim
     | true=>
      rw[hb] at hk
      refine ⟨_,_,_,_,hk,fun K' h=>g0 _ (g1 _ (g2 _ ?_))⟩
      simp only[hid,hb]
      exact ⟨a1,a2,h⟩
    ·exact hk.elim
   ·exact hk.elim
  ·exact hk.elim
 ·obtain ⟨i,hk,g0⟩:=ty_ext _ hk
  obtain ⟨v,hk,g1⟩:=opv_ext _ hk
  obtain ⟨v',hk,g2⟩:=opv_ext _ hk
  split at hk
  ·rename_i e1
   split at hk
   ·obtain ⟨a1,a2,hk⟩:=hk
    refine ⟨_,_,_,_,hk,fun K' h=>g0 _ (g1 _ (g2 _ ?_))⟩
    simp only[e1]
    exact ⟨a1,a2,h⟩
   ·exact hk.elim
  ·exact hk.elim
 ·obtain ⟨v,hk,g1⟩:=opv_ext _ hk
  split at hk
  ·split at hk
   ·rename_i hv
    refine ⟨_,_,_,_,hk,fun K' h=>g1 _ ?_⟩
    simp only[hv]
    exact h
   ·exact hk.elim
  ·exact hk.elim
 ·rename_i c ho
  split at hk
  ·rename_i b hc
   obtain ⟨vs,hk,g0⟩:=opvs_ext _ hk
   split at hk
   ·split at hk
    ·rename_i t ts hts
     obtain ⟨i,hk,g1⟩:=ty_ext _ hk
     split at hk
     ·obtain ⟨v,hk,g2⟩:=lenV_ext _ hk
      exact ⟨_,_,_,_,hk,fun K' h=>g0 _ (g1 _ (g2 _ h))⟩
     ·exact hk.elim
    ·exact hk.elim
   ·split at hk
    ·rename_i t t2 ts hts
     obtain ⟨i,hk,g1⟩:=elemTI_ext _ hk
     obtain ⟨j,hk,g2⟩:=ty_ext _ hk
     split at hk
     ·split at hk
      ·rename_i e1
       obtain ⟨_,_,_,hk,g3⟩:=append_ext _ hk
       refine ⟨_,_,_,_,hk,fun K' h=>g0 _ (g1 _ (g2 _ ?_))⟩
       simp only[e1]
       exact g3 _ h
      ·rename_i e1
       obtain ⟨_,_,_,hk,g3⟩:=append_ext _ hk
       refine ⟨_,_,_,_,hk,fun K' h=>g0 _ (g1 _ (g2 _ ?_))⟩
       simp only[e1]
       exact g3 _ h
      ·exact hk.elim
     ·exact hk.elim
    ·exact hk.elim
   ·split at hk
    ·obtain ⟨_,hk,g3⟩:=minMax_ext _ hk
     exact ⟨_,_,_,_,hk,fun K' h=>g0 _ (g3 _ h)⟩
    ·exact hk.elim
   ·split at hk
    ·obtain ⟨_,hk,g3⟩:=minMax_ext _ hk
     exact ⟨_,_,_,_,hk,fun K' h=>g0 _ (g3 _ h)⟩
    ·exact hk.elim
   ·split at hk
    ·rename_i t ts hts
     obtain ⟨i,hk,g1⟩:=elemTI_ext _ hk
     split at hk
     ·cases hsz:Nat.beq i.size 1 with
      | false=>rw[hsz] at hk;exact hk.elim
      | true=>
       rw[hsz] at hk
       obtain ⟨_,_,hk,g3⟩:=copyV_ext _ hk
       refine ⟨_,_,_,_,hk,fun K' h=>g0 _ (g1 _ ?_)⟩
       simp only[hsz]
       exact g3 _ h
     ·exact hk.elim
    ·exact hk.elim
   ·split at hk
    ·rename_i t ts hts
     obtain ⟨i,hk,g1⟩:=elemTI_ext _ hk
     split at hk
     ·obtain ⟨_,_,hk,g3⟩:=clearV_ext _ hk
      exact ⟨_,_,_,_,hk,fun K' h=>g0 _ (g1 _ (g3 _ h))⟩
     ·exact hk.elim
    ·exact hk.elim
   ·exact hk.elim
  ·rename_i fo hc
   obtain ⟨v,hk,g1⟩:=opv_ext _ hk
   split at hk
   ·obtain ⟨vs,hk,g2⟩:=opvs_ext _ hk
    obtain ⟨_,_,_,_,hk,g3⟩:=call_ext _ hk
    exact ⟨_,_,_,_,hk,fun K' h=>g1 _ (g2 _ (g3 _ h))⟩
   ·exact hk.elim
  ·exact hk.elim
 ·exact hk.elim
end
end Go.Proofs.VI
end
section
set_option linter.unusedVariables false
set_option linter.unusedSimpArgs false
namespace Go.Proofs.VI
open Go
structure Fm where
 size:Nat
 J:Nat→Prop
 V:Nat→Value
def Fm.ok (F:Fm) (d:Nat):Prop:=d < F.size∧¬ F.J d
structure Fr (F:Fm) (a:Act):Prop where
 defers:a.defers=[]
 size:a.tmps.size=F.size
 kept:∀ j,F.J j→a.tmps.getD j undef=F.V j
section
variable {P:Program} {w w' w0:World} {κ κ' κ0 κ3:Gh} {m m':Nat→Addr} {n n':Nat} {N:Fm} {s s':Slots} {h h':Heap} {a:Act} {L L':AV→Value→Prop} {tt:TypeId→Option TI} {C:FuncId→List AV→AV→List (Option AV)→Prop}
structure St (N:Fm) (w:World) (κ:Gh) (m:Nat→Addr) (n:Nat) (s:Slots) (h:Heap) (a:Act):Prop where
 rel:Rel w κ m n s h a
 fr:Fr N a
def Up (K:Nat→Slots→Heap→Prop) (N:Fm) (κ0:Gh) (w0:World) (a:Act) (w:World):Prop:=∃ n s h κ m,K n s h∧St N w κ m n s h a∧Stp κ0 w0 κ w
theorem put_defers (a:Act) (d:Option Nat) (u:Value):(a.put d u).defers=a.defers:=by cases d<;>rfl
theorem put_size (a:Act) (d:Option Nat) (u:Value):(a.put d u).tmps.size=a.tmps.size:=by
 cases d with
 | none=>rfl
 | some d=>exact Array.size_setIfInBounds ..
theorem Fr.put (S:Fr N a) {d:Option Nat} {u:Value} (hd:∀ t,d=some t→N.ok t):Fr N (a.put d u):=by
 refine ⟨by rw[put_defers];exact S.defers,by rw[put_size];exact S.size,fun j hj=>?_⟩
 rw[←S.kept j hj]
 cases d with
 | none=>rfl
 | some d=>
  have hne:d≠j:=fun e=>(hd d rfl).2 (e▸hj)
  simp[Act.put,Array.getD_eq_getD_getElem?,Array.getElem?_setIfInBounds_ne hne]
theorem St.put (S:St N w κ m n s h a) {d:Option Nat} {v:AV} {u:Value} (hd:∀ t,d=some t→N.ok t) (hv:relV w κ (liveV w κ m n h) none v u):St N w κ m n (put s d v) h (a.put d u):=
 ⟨S.rel.put (fun t ht=>by rw[S.fr.size];exact (hd t ht).1) hv,S.fr.put hd⟩
theorem tup_rel {K:Option Key}:relV w κ L K (.tup []) undef:=⟨[],rfl,rfl⟩
theorem Rel.retell (R:Rel w κ m n s h a) (hs:∀ t,(s' t).map norm=(s t).map norm):Rel w κ m n s' h a:=by
 refine ⟨fun t v ht=>?_,R.blk,R.low,R.fresh⟩
 have:=hs t
 rw[ht] at this
 cases e:s t with
 | none=>rw[e] at this;cases this
 | some v'=>
  rw[e] at this
  simp only[Option.map_some,Option.some.injEq] at this
  obtain ⟨h1,h2⟩:=R.slot t v' e
  refine ⟨h1,norm_rel ?_⟩
  rw[this]
  cases v'<;>exact h2
theorem put_norm {d:Nat} {v v':AV} (hd:s d=some v) (hv:norm v'=norm v) (t:Nat):(put s (some d) v' t).map norm=(s t).map norm:=by
 by_cases e:t=d
 ·subst e
  rw[show put s (some t) v' t=some v' from upd_eq _ _ _,hd]
  simp[hv]
 ·rw[show put s (some d) v' t=s t from upd_ne _ _ e]
theorem yielded_slot {ops:Array Oper} {j d:Nat} {oj:Oper} (hj:ops.toList[j]?=some oj) (hd:oj.dst=some d) (hlt:d < a.tmps.size):
  yielded ops a.tmps j=match a.tmps.getD d undef with | .bool b=>some b | _=>none:=by
 have:ops[j]?=some oj:=by simpa using hj
 unfold yielded
 rw[this]
 simp only[Option.bind_some,hd]
 have e:a.tmps[d]?=some (a.tmps.getD d undef):=by simp[Array.getD,hlt]
 rw[e]
 cases a.tmps.getD d undef<;>rfl
theorem wanted_yes {ops:Array Oper} {o:Oper} {j d:Nat} {want:Bool} {oj:Oper} (hg:o.guard=some (j,want)) (hj:ops.toList[j]?=some oj) (hd:oj.dst=some d) (hlt:d < a.tmps.size) (hu:a.tmps.getD d undef= .bool want):Region.wanted o (yielded ops a.tmps)=true:=by
 simp only[Region.wanted,hg,yielded_slot hj hd hlt,hu]
 simp
theorem wanted_no {ops:Array Oper} {o:Oper} {j d:Nat} {want:Bool} {oj:Oper} (hg:o.guard=some (j,want)) (hj:ops.toList[j]?=some oj) (hd:oj.dst=some d) (hlt:d < a.tmps.size) (hu:a.tmps.getD d undef≠ .bool want):Region.wanted o (yielded ops a.tmps)=false:=by
 simp only[Region.wanted,hg,yielded_slot hj hd hlt]
 split
 ·rename_i b e
  rw[e] at hu
  simp
  intro e2
  exact hu (by rw[e2])
 ·rfl
theorem aops_sound (T:TOk P tt) (HC:∀ f args res outs,C f args res outs→Contract P f args res outs) {opsA:Array Oper} {Q:Exit→Act→World→Prop} {K:Nat→Slots→Heap→Prop} (hQ:∀ a w,Up K N κ0 w0 a w→Q .normal a w):
  ∀ {ops:List Oper} {n:Nat} {s:Slots} {h:Heap} {κ:Gh} {m:Nat→Addr} {a:Act} {w:World},aops C tt opsA.toList n ops s h K→St N w κ m n s h a→Stp κ0 w0 κ w→(∀ o∈ops,∀ d,o.dst=some d→N.ok d)→wpList P opsA Q ops a w
 | [],n,s,h,κ,m,a,w,hk,S,ST,hb=>hQ a w ⟨n,s,h,κ,m,hk,S,ST⟩
 | o::rest,n,s,h,κ,m,a,w,hk,S,ST,hb=>by
  have hb':∀ o∈rest,∀ d,o.dst=some d→N.ok d:=fun o ho=>hb o (List.mem_cons_of_mem _ ho)
  have hd:=hb o (List.mem_cons_self ..)
  have yes:∀ {s:Slots},St N w κ m n s h a→Region.wanted o (yielded opsA a.tmps)=true→aop C tt n o s h (fun _ n v h=>aops C tt opsA.toList n rest (put s o.dst v) h K)→wpList P opsA Q (o::rest) a w:=fun {s} S hw hk=>by
   unfold wpList
   rw[if_pos hw]
   refine .inl (Oper.wp_mono2 (fun a' w' hp=>?_) (fun _ _ _ h=>h) (aop_sound T HC S.rel hk))
   obtain ⟨f,n',v,h',κ',m',u,hk,hn,rfl,hv,R,S',_⟩:=hp
   exact aops_sound T HC hQ hk (St.put ⟨R,S.fr⟩ hd hv) (ST.trans S') hb'
  have no:∀ {s:Slots},St N w κ m n s h a→Region.wanted o (yielded opsA a.tmps)=false→aops C tt opsA.toList n rest (put s o.dst (.tup [])) h K→wpList P opsA Q (o::rest) a w:=fun {s} S hw hk=>by
   unfold wpList
   rw[if_neg (by rw[hw];simp)]
   exact aops_sound T HC hQ hk (St.put S hd tup_rel) ST hb'
  simp only[aops] at hk
  split at hk
  ·rename_i hg
   exact yes S (by simp[Region.wanted,hg]) hk
  ·rename_i j want hg
   split at hk
   ·rename_i oj hj
    split at hk
    ·rename_i d hdj
     split at hk
     ·rename_i b hsd
      obtain ⟨hlt,hrel⟩:=S.rel.slot d b hsd
      split at hk
      ·have hrel:a.tmps.getD d undef= .bool true:=hrel
       cases want with
       | true=>exact yes S (wanted_yes hg hj hdj hlt hrel) hk
       | false=>exact no S (wanted_no hg hj hdj hlt (by rw[hrel];simp)) hk
      ·have hrel:a.tmps.getD d undef= .bool false:=hrel
       cases want with
       | false=>exact yes S (wanted_yes hg hj hdj hlt hrel) hk
       | true=>exact no S (wanted_no hg hj hdj hlt (by rw[hrel];simp)) hk
      ·rename_i b
       have hrel:a.tmps.getD d undef= .bool b:=hrel
       have St':∀ v',norm v'= .bool b→St N w κ m n (put s (some d) v') h a:=fun v' hv'=>⟨S.rel.retell (put_norm hsd hv'),S.fr⟩
       cases want with
       | true=>
        cases b with
        | true=>exact yes (St' .tt rfl) (wanted_yes hg hj hdj hlt hrel) (hk.1 rfl)
        | false=>exact no (St' .ff rfl) (wanted_no hg hj hdj hlt (by rw[hrel];simp)) (hk.2 rfl)
       | false=>
        cases b with
        | false=>exact yes (St' .ff rfl) (wanted_yes hg hj hdj hlt hrel) (hk.1 rfl)
        | true=>exact no (St' .tt rfl) (wanted_no hg hj hdj hlt (by rw[hrel];simp)) (hk.2 rfl)
      ·obtain ⟨vs,hu,hvs⟩:=hrel
       exact no S (wanted_no hg hj hdj hlt (by rw[hu];simp)) hk
      ·exact hk.elim
     ·exact hk.elim
    ·exact hk.elim
   ·exact hk.elim
end
end Go.Proofs.VI
end
section
set_option linter.unusedVariables false
set_option linter.unusedSimpArgs false
namespace Go.Proofs.VI
open Go
section
variable {P:Program} {w w' w0:World} {κ κ' κ0 κ3:Gh} {m m':Nat→Addr} {n n' N:Nat} {s s':Slots} {h h':Heap} {a:Act} {L L':AV→Value→Prop} {tt:TypeId→Option TI} {C:FuncId→List AV→AV→List (Option AV)→Prop}
theorem mem_iff {i:Nat}:∀ {l:List Nat},mem i l=true↔i∈l
 | []=>by simp[mem]
 | j::l=>by
  simp only[mem,List.mem_cons]
  cases hb:Nat.beq i j with
  | true=>simp[Nat.eq_of_beq_eq_true hb]
  | false=>
   have:i≠j:=fun e=>by rw[e,beqT] at hb;cases hb
   simp[this,mem_iff (l:=l)]
theorem bltT {a b:Nat}:Nat.blt a b=true↔a < b:=by
 constructor
 ·intro h;exact Nat.le_of_ble_eq_true h
 ·intro h;exact Nat.ble_eq_true_of_le h
theorem bleT {a b:Nat}:Nat.ble a b=true↔a≤b:=⟨Nat.le_of_ble_eq_true,Nat.ble_eq_true_of_le⟩
def Told (F:List Nat) (n n' i:Nat):Prop:=i∈F∨(n≤i∧i < n')
theorem told_iff {F:List Nat} {n n' i:Nat}:(mem i F||(Nat.ble n i&&Nat.blt i n'))=true↔Told F n n' i:=by
 simp[Told,mem_iff,bltT,bleT]
def nameOk (A:Nat→Prop):AV→Prop
 | .own i=>A i
 | .sl i _ _=>A i
 | .ptr i _ _=>A i
 | _=>True
theorem okC_name {F:List Nat} {v:AV} (hv:okC F n n' v=true):nameOk (Told F n n') v∧(∀ l,v≠ .agg l)∧(∀ l,v≠ .tup l)∧∀ f l,v≠ .fn f l:=by
 cases v<;>simp only[okC] at hv<;>simp[nameOk]<;>first | exact told_iff.1 hv | cases hv
theorem relC_names {A:Nat→Prop} (hI:ImmMap w w' κ κ') (hL:∀ v u,nameOk A v→L v u→L' v u) {v:AV} {u:Value} (hn:nameOk A v) (h1:∀ l,v≠ .agg l) (h2:∀ l,v≠ .tup l) (h3:∀ f l,v≠ .fn f l) (hv:relV w κ L none v u):relV w' κ' L' none v u:=by
 cases v with
 | own i=>exact hL _ _ hn hv
 | sl i o l=>exact hL _ _ hn hv
 | ptr i r c=>exact hL _ _ hn hv
 | agg l=>exact absurd rfl (h1 l)
 | tup l=>exact absurd rfl (h2 l)
 | fn f l=>exact absurd rfl (h3 f l)
 | ro k rows=>exact relV_move (L:=L) (L':=L) hI (fun _ _ h=>h) (.ro k rows) none none u .none_ hv
 | ow k rows=>exact relV_move (L:=L) (L':=L) hI (fun _ _ h=>h) (.ow k rows) none none u .none_ hv
 | rp row c=>exact relV_move (L:=L) (L':=L) hI (fun _ _ h=>h) (.rp row c) none none u .none_ hv
 | pb row=>exact relV_move (L:=L) (L':=L) hI (fun _ _ h=>h) (.pb row) none none u .none_ hv
 | _=>exact hv
theorem relCs_names {F:List Nat} (hI:ImmMap w w' κ κ') (hL:∀ v u,nameOk (Told F n n') v→L v u→L' v u):∀ {cs:List AV} {us:List Value} {c:Nat},okCs F n n' cs=true→relL w κ L none c cs us→relL w' κ' L' none c cs us
 | [],us,c,_,hv=>hv
 | v::cs,us,c,ho,hv=>by
  simp only[okCs,Bool.and_eq_true] at ho
  obtain ⟨u,us',rfl,h1,h2⟩:=hv
  obtain ⟨o1,o2,o3,o4⟩:=okC_name ho.1
  exact ⟨u,us',rfl,relC_names hI hL o1 o2 o3 o4 h1,relCs_names hI hL ho.2 h2⟩
theorem relA_names {F:List Nat} (hI:ImmMap w w' κ κ') (hL:∀ v u,nameOk (Told F n n') v→L v u→L' v u) {v:AV} {u:Value} (ho:okA F n n' v=true) (hv:relV w κ L none v u):relV w' κ' L' none v u:=by
 have other:okC F n n' v=true→relV w' κ' L' none v u:=fun ho=>by
  obtain ⟨o1,o2,o3,o4⟩:=okC_name ho
  exact relC_names hI hL o1 o2 o3 o4 hv
 cases v with
 | agg cs=>
  obtain ⟨us,hu,hr⟩:=hv
  exact ⟨us,hu,relCs_names hI hL (show okCs F n n' cs=true from ho) hr⟩
 | fn f cs=>
  obtain ⟨us,hu,hr⟩:=hv
  exact ⟨us,hu,relCs_names hI hL (show okCs F n n' cs=true from ho) hr⟩
 | _=>exact other ho
theorem relAs_names {F:List Nat} (hI:ImmMap w w' κ κ') (hL:∀ v u,nameOk (Told F n n') v→L v u→L' v u):∀ {cs:List AV} {us:List Value} {c:Nat},okAs F n n' cs=true→relL w κ L none c cs us→relL w' κ' L' none c cs us
 | [],us,c,_,hv=>hv
 | v::cs,us,c,ho,hv=>by
  simp only[okAs,Bool.and_eq_true] at ho
  obtain ⟨u,us',rfl,h1,h2⟩:=hv
  exact ⟨u,us',rfl,relA_names hI hL ho.1 h1,relAs_names hI hL ho.2 h2⟩
theorem relV_names {F:List Nat} (hI:ImmMap w w' κ κ') (hL:∀ v u,nameOk (Told F n n') v→L v u→L' v u) {v:AV} {u:Value} (ho:okN F n n' v=true) (hv:relV w κ L none v u):relV w' κ' L' none v u:=by
 have other:okA F n n' v=true→relV w' κ' L' none v u:=fun ho=>relA_names hI hL ho hv
 cases v with
 | tup cs=>
  obtain ⟨us,hu,hr⟩:=hv
  exact ⟨us,hu,relAs_names hI hL (show okAs F n n' cs=true from ho) hr⟩
 | _=>exact other ho
def holesB:Blk→List Hole
 | .box _ hs=>hs
 | .rows _ _ hs=>hs
theorem okHs_told {F:List Nat}:∀ {hs:List Hole},okHs F n n' hs=true→∀ x∈hs,Told F n n' x.id
 | [],_,x,hx=>by simp at hx
 | y::hs,ho,x,hx=>by
  simp only[okHs,Bool.and_eq_true] at ho
  rcases List.mem_cons.1 hx with e | hx
  ·subst e;exact told_iff.1 ho.1
  ·exact okHs_told ho.2 x hx
theorem okB_told {F:List Nat}:∀ {l:List Nat},okB F n n' h l=true→∀ i∈l,∀ b,h i=some b→∀ x∈holesB b,Told F n n' x.id
 | [],_,i,hi=>by simp at hi
 | j::l,ho,i,hi=>fun b hb=>by
  simp only[okB,Bool.and_eq_true] at ho
  rcases List.mem_cons.1 hi with e | hi
  ·subst e
   have h1:=ho.1
   rw[hb] at h1
   cases b with
   | box row hs=>exact okHs_told h1
   | rows k rs hs=>exact okHs_told h1
  ·exact okB_told ho.2 i hi b hb
theorem findHole_mem {hs:List Hole} {r c i:Nat} (hf:findHole hs r c=some i):∃ x∈hs,x.id=i:=by
 unfold findHole at hf
 cases e:hs.find? (fun x=>x.row == r&&x.cell == c) with
 | none=>rw[e] at hf;cases hf
 | some x=>
  rw[e] at hf
  injection hf with hf
  exact ⟨x,List.mem_of_find?_eq_some e,hf⟩
theorem relHRow_names {id:Nat} {hs:List Hole} {r:Nat} {C:Array Value} (hI:ImmMap w w' κ κ') (hL:∀ i u,(∃ x∈hs,x.id=i)→L (.own i) u→L' (.own i) u)
  (hK:KeyMap w w' κ κ' (some (id,[])) (some (id,[]))):∀ {cs:List AV} {c o:Nat},relHRow w κ L id hs r c cs C o→relHRow w' κ' L' id hs r c cs C o
 | [],_,_,_=>trivial
 | v::cs,c,o,h=>by
  obtain ⟨⟨u,hu,h1⟩,h2⟩:=h
  refine ⟨⟨u,hu,?_⟩,relHRow_names hI hL hK h2⟩
  unfold relCell at h1⊢
  split
  ·rename_i hf;rw[hf] at h1;exact hL _ _ (findHole_mem hf) h1
  ·rename_i hf;rw[hf] at h1
   exact relV_move hI (fun _ _ h=>h) v _ _ u (hK.kid r c) h1
theorem relHRs_names {id:Nat} {hs:List Hole} {k:Nat} {C:Array Value} (hI:ImmMap w w' κ κ') (hL:∀ i u,(∃ x∈hs,x.id=i)→L (.own i) u→L' (.own i) u)
  (hK:KeyMap w w' κ κ' (some (id,[])) (some (id,[]))):∀ {rows:List (List AV)} {r o:Nat},relHRs w κ L id hs k r rows C o→relHRs w' κ' L' id hs k r rows C o
 | [],_,_,_=>trivial
 | row::rows,r,o,h=>⟨h.1,relHRow_names hI hL hK h.2.1,relHRs_names hI hL hK h.2.2⟩
theorem relBlk_names {id:Nat} {b:Blk} (hI:ImmMap w w' κ κ') (hL:∀ i u,(∃ x∈holesB b,x.id=i)→L (.own i) u→L' (.own i) u)
  (hK:KeyMap w w' κ κ' (some (id,[])) (some (id,[]))) (hm:m' id=m id) (h:relBlk w κ m L id b):relBlk w' κ' m' L' id b:=by
 have hk:∀ x,κ x=some (.key (id,[]))→κ' x=some (.key (id,[]))∧w'.heap[x]?=w.heap[x]?:=fun x hx=>by
  obtain ⟨K1,e,h⟩:=hK
  injection e with e;subst e
  simpa using h [] x (by simpa using hx)
 cases b with
 | box row hs=>
  obtain ⟨h0,h1,C,t,fr,h2,h3,h4,h5⟩:=h
  exact ⟨h0,by rw[hm];exact h1,C,t,fr,by rw[hm];exact (hk _ h4).2.trans h2,h3,by rw[hm];exact (hk _ h4).1,by rw[hm];exact relHRow_names hI hL hK h5⟩
 | rows k rs hs=>
  rcases h with h | ⟨h1,C,t,fr,h2,h3,h4,h5⟩
  ·exact .inl h
  ·exact .inr ⟨by rw[hm];exact h1,C,t,fr,by rw[hm];exact (hk _ h4).2.trans h2,h3,by rw[hm];exact (hk _ h4).1,by rw[hm];exact relHRs_names hI hL hK h5⟩
structure RelN (A:Nat→Prop) (w:World) (κ:Gh) (m:Nat→Addr) (n:Nat) (s:Slots) (h:Heap) (a:Act):Prop where
 slot:∀ t v,s t=some v→t < a.tmps.size∧relV w κ (fun v u=>liveV w κ m n h v u∧nameOk A v) none v (a.tmps.getD t undef)
 blk:∀ id b,h id=some b→A id∧relBlk w κ m (fun v u=>liveV w κ m n h v u∧nameOk A v) id b
 low:∀ b g,κ b=some g→b < w.heap.size
 fresh:∀ b id p,κ b=some (.key (id,p))→A id
 lt:∀ i,A i→i < n
theorem RelN.rel {A:Nat→Prop} (R:RelN A w κ m n s h a):Rel w κ m n s h a:=
 ⟨fun t v ht=>⟨(R.slot t v ht).1,relV_move (fun b hb=>⟨hb,rfl⟩) (fun _ _ h=>h.1) v none none _ .none_ (R.slot t v ht).2⟩,
  fun id b hb => ⟨R.lt _ (R.blk id b hb).1, relBlk_move (fun b hb => ⟨hb, rfl⟩) (fun _ _ h => h.1) ⟨_, rfl, fun q b hb => ⟨hb, rfl⟩⟩ rfl (R.blk id b hb).2⟩, R.low, fun b id p hb => R.lt _ (R.fresh b id p hb)⟩
theorem liveV_name {v:AV} {u:Value} (hv:liveV w κ m n h v u):nameOk (· < n) v:=by
 cases v<;>first | exact hv.1 | trivial
theorem Rel.names (R:Rel w κ m n s h a) (hn:n≤N):RelN (· < n) w κ m N s h a:=by
 have hL:∀ v u,liveV w κ m n h v u→liveV w κ m N h v u∧nameOk (· < n) v:=fun v u hv=>
  ⟨liveV_move hn (fun i hi=> .inr ⟨rfl,rfl,fun x hx=>⟨hx,rfl⟩⟩) v u hv,liveV_name hv⟩
 exact ⟨fun t v ht=>⟨(R.slot t v ht).1,relV_move (fun b hb=>⟨hb,rfl⟩) hL v none none _ .none_ (R.slot t v ht).2⟩,
  fun id b hb => ⟨(R.blk id b hb).1, relBlk_move (fun b hb => ⟨hb, rfl⟩) hL ⟨_, rfl, fun q b hb => ⟨hb, rfl⟩⟩ rfl (R.blk id b hb).2⟩, R.low, R.fresh, fun i hi => Nat.lt_of_lt_of_le hi hn⟩
theorem RelN.put {A:Nat→Prop} (R:RelN A w κ m n s h a) {d:Option Nat} {v:AV} {u:Value} (hd:∀ t,d=some t→t < a.tmps.size) (hv:relV w κ (fun v u=>liveV w κ m n h v u∧nameOk A v) none v u):RelN A w κ m n (put s d v) h (a.put d u):=by
 cases d with
 | none=>exact ⟨R.slot,R.blk,R.low,R.fresh,R.lt⟩
 | some d=>
  have hd:=hd d rfl
  refine ⟨fun t x ht=>?_,R.blk,R.low,R.fresh,R.lt⟩
  simp only[VI.put,upd] at ht
  simp only[Act.put,Array.size_setIfInBounds]
  by_cases e:t=d
  ·subst e
   simp at ht
   subst ht
   refine ⟨hd,?_⟩
   simpa [Array.getD,hd] using hv
  ·have:Nat.beq t d=false:=beqF e
   rw[this] at ht
   simp only[cond_false] at ht
   refine ⟨(R.slot t x ht).1,?_⟩
   have h1:=(R.slot t x ht).2
   have:(a.tmps.setIfInBounds d u).getD t undef=a.tmps.getD t undef:=by
    simp[Array.getD_eq_getD_getElem?,Array.getElem?_setIfInBounds_ne (Ne.symm e)]
   rw[this];exact h1
def hideG (F:List Nat) (κ:Gh):Gh:=fun b=>match κ b with
 | some (.key K)=>bif mem K.1 F then some (.key K) else none
 | x=>x
def showG (F:List Nat) (n n':Nat) (κ κ':Gh):Gh:=fun b=>match κ b with
 | some (.key K)=>bif mem K.1 F then (match κ' b with | some (.key K')=>bif mem K'.1 F||(Nat.ble n K'.1&&Nat.blt K'.1 n') then some (.key K') else none | x=>x) else some (.key K)
 | some .imm=>some .imm
 | none=>(match κ' b with | some (.key K')=>bif mem K'.1 F||(Nat.ble n K'.1&&Nat.blt K'.1 n') then some (.key K') else none | x=>x)
theorem hideG_in {F:List Nat} {b:Nat} {K:Key} (hb:κ b=some (.key K)) (hF:K.1∈F):hideG F κ b=some (.key K):=by
 simp[hideG,hb,mem_iff.2 hF]
theorem hideG_out {F:List Nat} {b:Nat} {K:Key} (hb:κ b=some (.key K)) (hF:K.1∉F):hideG F κ b=none:=by
 have:mem K.1 F=false:=by cases e:mem K.1 F with | false=>rfl | true=>exact absurd (mem_iff.1 e) hF
 simp[hideG,hb,this]
theorem restr_in {F:List Nat} {j:Nat} (hj:j∈F):restr h F j=h j:=by
 cases F with
 | nil=>simp at hj
 | cons x F=>simp only[restr];rw[mem_iff.2 hj];rfl
theorem restr_out {F:List Nat} {j:Nat} (hj:j∉F):restr h F j=none:=by
 have:mem j F=false:=by cases e:mem j F with | false=>rfl | true=>exact absurd (mem_iff.1 e) hj
 cases F with
 | nil=>rfl
 | cons x F=>simp only[restr];rw[this];rfl
end
end Go.Proofs.VI
end
section
set_option linter.unusedVariables false
set_option linter.unusedSimpArgs false
namespace Go.Proofs.VI
open Go
section
variable {P:Program} {w w' w0:World} {κ κ' κ0 κ3:Gh} {m m':Nat→Addr} {n n' N:Nat} {s s':Slots} {h h':Heap} {a:Act} {L L':AV→Value→Prop} {tt:TypeId→Option TI} {C:FuncId→List AV→AV→List (Option AV)→Prop}
theorem liveV_at (A:Nat→Prop) (hn:∀ i,A i→i < n→i < n')
  (hh:∀ i,A i→i < n→h' i=none∨(shp (h' i)=shp (h i)∧m' i=m i∧(∀ kl,shp (h i)=some (some kl)→∀ k N,HasBlk w κ (m i) i k N→HasBlk w' κ' (m i) i k N))):
  ∀ v u,nameOk A v→liveV w κ m n h v u→liveV w' κ' m' n' h' v u:=by
 intro v u ha hv
 cases v with
 | own i=>
  obtain ⟨hi,hs,hv⟩:=hv
  refine ⟨hn i ha hi,hs,?_⟩
  rcases hh i ha hi with h0 | ⟨h0,h1,h2⟩
  ·rw[h0];trivial
  ·rw[h0]
   split at hv
   ·rename_i hsh
    obtain ⟨A,cap,e,hl,hc⟩:=hv
    exact ⟨A,cap,e,hl,hc.imp id fun hc=>⟨by rw[h1];exact hc.1,by rw[h1];exact h2 _ hsh _ _ hc.2⟩⟩
   ·trivial
 | sl i off len=>
  obtain ⟨hi,hs,hv⟩:=hv
  refine ⟨hn i ha hi,hs,?_⟩
  rcases hh i ha hi with h0 | ⟨h0,h1,h2⟩
  ·rw[h0];trivial
  ·rw[h0]
   split at hv
   ·rename_i hsh
    obtain ⟨ho,A,cap,e,hl,hc⟩:=hv
    exact ⟨ho,A,cap,e,hl,hc.imp id fun hc=>⟨by rw[h1];exact hc.1,by rw[h1];exact h2 _ hsh _ _ hc.2⟩⟩
   ·trivial
 | ptr i r c=>
  obtain ⟨hi,hs,hv⟩:=hv
  refine ⟨hn i ha hi,hs,?_⟩
  rcases hh i ha hi with h0 | ⟨h0,h1,h2⟩
  ·rw[h0];trivial
  ·rw[h0,h1];exact hv
 | _=>exact hv.elim
theorem nameOk_mono {A B:Nat→Prop} (hAB:∀ i,A i→B i) {v:AV} (hv:nameOk A v):nameOk B v:=by
 cases v<;>first | exact hAB _ hv | trivial
theorem nameOk_and {A B:Nat→Prop} {v:AV} (ha:nameOk A v) (hb:nameOk B v):nameOk (fun i=>A i∧B i) v:=by
 cases v<;>first | exact ⟨ha,hb⟩ | trivial
theorem nameOk_em (F:List Nat) {v:AV}:nameOk (· ∈F) v∨nameOk (· ∉F) v:=by
 cases v<;>first | exact Classical.em _ | exact .inl trivial
theorem undL_rel {L:AV→Value→Prop} {K:Option Key}:∀ {cs:List AV} {us:List Value} {c:Nat},relL w κ L K c cs us→relL w κ L K c (undL cs) us
 | [],_,_,h=>h
 | _::_,_,_,⟨u,us,e,_,h2⟩=>⟨u,us,e,trivial,undL_rel h2⟩
theorem onlyI_rel {L:AV→Value→Prop} {K:Option Key}:∀ {cs:List AV} {us:List Value} {c i:Nat},relL w κ L K c cs us→relL w κ L K c (onlyI cs i) us
 | [],_,_,_,h=>h
 | _::_,_,_,0,⟨u,us,e,h1,h2⟩=>⟨u,us,e,h1,undL_rel h2⟩
 | _::_,_,_,_+1,⟨u,us,e,_,h2⟩=>⟨u,us,e,trivial,onlyI_rel h2⟩
theorem seeS_some {s:Slots} {op:Op} {t:Nat} {v:AV} (hs:seeS s op t=some v):∃ v9,s t=some v9∧∀ {L:AV→Value→Prop} {u:Value},relV w κ L none v9 u→relV w κ L none v u:=by
 unfold seeS at hs
 split at hs
 ·split at hs
  ·rename_i cs hcs
   injection hs with hs
   subst hs
   exact ⟨_,hcs,fun ⟨us,e,h⟩=>⟨us,e,onlyI_rel h⟩⟩
  ·exact ⟨v,hs,fun h=>h⟩
 ·exact ⟨v,hs,fun h=>h⟩
theorem norm_ptr {x y:Option AV} {i r c:Nat} (hx:x=some (.ptr i r c)) (h:x.map norm=y.map norm):y=some (.ptr i r c):=by
 subst hx
 cases y with
 | none=>cases h
 | some v=>
  simp only[Option.map_some,Option.some.injEq] at h
  cases v<;>simp only[norm] at h<;>first | (rw[h];done) | cases h
theorem holeIn_find {hs:List Hole} {c j:Nat} (h0:∀ x∈hs,x.row=0) (h:holeIn hs c=some j):findHole hs 0 c=some j:=by
 induction hs with
 | nil=>cases h
 | cons x hs ih=>
  obtain ⟨r',c',id⟩:=x
  have hr:r'=0:=h0 _ List.mem_cons_self
  subst hr
  simp only[holeIn] at h
  cases hb:Nat.beq c' c with
  | true=>
   rw[hb] at h
   injection h with h
   have:=Nat.eq_of_beq_eq_true hb
   subst this
   simp[findHole,h]
  | false=>
   rw[hb] at h
   have hne:(c' == c)=false:=by
    cases h9:(c' == c) with
    | false=>rfl
    | true=>rw[show c'=c by simpa using h9,beqT] at hb;cases hb
   have:=ih (fun x hx=>h0 x (List.mem_cons_of_mem _ hx)) h
   simpa [findHole,hne] using this
theorem lite_some {tt:TypeId→Option TI} {h:Heap} {s:Slots} {op:Op} {v:AV} {F:List Nat} (hl:lite tt h s op=some (v,F)):
  (∃ t i r c,op= .move (.tmp t)∧s t=some (.ptr i r c)∧v= .ptr i r c∧F=[])∨
  (∃ ty t f i r c row hs ti fs off ft,op= .fieldAddr ty (.tmp t) f∧s t=some (.ptr i r c)∧h i=some (.box row hs)∧tt ty=some ti∧ti.kind= .struct fs∧fs[f]?=some (off,ft)∧v= .ptr i r (c+off)∧F=[i])∨
  (∃ ty t i r c row hs j ti e,op= .load ty (.tmp t)∧s t=some (.ptr i r c)∧h i=some (.box row hs)∧holeIn hs c=some j∧tt ty=some ti∧ti.size=1∧ti.kind= .slice e∧c < row.length∧v= .own j∧F=[i])∨
  (∃ t i r c row hs,op= .nilCheck (.tmp t)∧s t=some (.ptr i r c)∧h i=some (.box row hs)∧v= .ptr i r c∧F=[i])∨
  (∃ ty t i r c row hs ti k k' n,op= .load ty (.tmp t)∧s t=some (.ptr i r c)∧h i=some (.box row hs)∧holeIn hs c=none∧tt ty=some ti∧ti.size=1∧ti.kind= .int k'∧nthA row c=some (.int k n)∧v= .int k n∧F=[i]):=by
 unfold lite at hl
 split at hl
 ·split at hl
  ·injection hl with hl
   injection hl with h1 h2
   exact .inl ⟨_,_,_,_,rfl,by assumption,h1.symm,h2.symm⟩
  ·cases hl
 ·split at hl
  ·split at hl
   ·split at hl
    ·split at hl
     ·injection hl with hl
      injection hl with h1 h2
      exact .inr (.inl ⟨_,_,_,_,_,_,_,_,_,_,_,_,rfl,by assumption,by assumption,by assumption,rfl,by assumption,h1.symm,h2.symm⟩)
     ·cases hl
    ·cases hl
   ·cases hl
  ·cases hl
 ·split at hl
  ·split at hl
   ·split at hl
    ·split at hl
     ·split at hl
      ·rename_i hbl
       injection hl with hl
       injection hl with h1 h2
       exact .inr (.inr (.inl ⟨_,_,_,_,_,_,_,_,_,_,rfl,by assumption,by assumption,by assumption,by assumption,rfl,rfl,bltT.1 hbl,h1.symm,h2.symm⟩))
      ·cases hl
     ·cases hl
    ·split at hl
     ·split at hl
      ·injection hl with hl
       injection hl with h1 h2
       exact .inr (.inr (.inr (.inr ⟨_,_,_,_,_,_,_,_,_,_,_,rfl,by assumption,by assumption,by assumption,by assumption,rfl,rfl,by assumption,h1.symm,h2.symm⟩)))
      ·cases hl
     ·cases hl
   ·cases hl
  ·cases hl
 ·split at hl
  ·split at hl
   ·injection hl with hl
    injection hl with h1 h2
    exact .inr (.inr (.inr (.inl ⟨_,_,_,_,_,_,rfl,by assumption,by assumption,h1.symm,h2.symm⟩)))
   ·cases hl
  ·cases hl
 ·cases hl
theorem lite_agree {tt:TypeId→Option TI} {h h':Heap} {s:Slots} {op:Op} {v:AV} {F:List Nat} (hl:lite tt h s op=some (v,F)) (hh:∀ j∈F,h' j=h j):lite tt h' s op=some (v,F):=by
 rcases lite_some hl with ⟨t,i,r,c,rfl,hs,rfl,rfl⟩ | ⟨ty,t,f,i,r,c,row,hs,ti,fs,off,ft,rfl,h1,h2,h3,h4,h5,rfl,rfl⟩ | ⟨ty,t,i,r,c,row,hs,j,ti,e,rfl,h1,h2,h3,h4,h5,h6,h7,rfl,rfl⟩ | ⟨t,i,r,c,row,hs,rfl,h1,h2,rfl,rfl⟩ | ⟨ty,t,i,r,c,row,hs,ti,k,k',n,rfl,h1,h2,h3,h4,h5,h6,h7,rfl,rfl⟩
 ·exact hl
 ·have e:=hh i (List.mem_singleton.2 rfl)
  simp only[lite] at hl⊢
  rw[h1] at hl⊢
  dsimp only at hl⊢
  rw[e];exact hl
 ·have e:=hh i (List.mem_singleton.2 rfl)
  simp only[lite] at hl⊢
  rw[h1] at hl⊢
  dsimp only at hl⊢
  rw[e];exact hl
 ·have e:=hh i (List.mem_singleton.2 rfl)
  simp only[lite] at hl⊢
  rw[h1] at hl⊢
  dsimp only at hl⊢
  rw[e];exact hl
 ·have e:=hh i (List.mem_singleton.2 rfl)
  simp only[lite] at hl⊢
  rw[h1] at hl⊢
  dsimp only at hl⊢
  rw[e];exact hl
theorem holeIn_none {hs:List Hole} {c:Nat} (h:holeIn hs c=none):findHole hs 0 c=none:=by
 induction hs with
 | nil=>rfl
 | cons x hs ih=>
  obtain ⟨r,c',id⟩:=x
  rw[holeIn] at h
  cases e:Nat.beq c' c with
  | true=>rw[e] at h;cases h
  | false=>
   rw[e] at h
   have g:(r == 0&&c' == c)=false:=by
    have hne:c'≠c:=fun e2=>by
     subst e2
     rw[Nat.beq_refl] at e;cases e
    have:(c' == c)=false:=by simpa using hne
    rw[this,Bool.and_false]
   have e3:findHole (⟨r,c',id⟩::hs) 0 c=findHole hs 0 c:=by simp only[findHole,List.find?_cons,g]
   rw[e3];exact ih h
theorem nthA_eq:∀ (row:List AV) (c:Nat),nthA row c=row[c]?
 | [],_=>rfl
 | v::r,0=>rfl
 | v::r,c+1=>by rw[nthA,nthA_eq r c,List.getElem?_cons_succ]
theorem frame_pure {A:Nat→Prop} (R:RelN A w κ m N s h a) {o:Oper} {v:AV} {f:Bool} {h1:Heap} {F:List Nat} {u:Value} (hf:f=false) (hn':n'=n)
  (hr:(execOp a.eval o).run P w= .ok (.value u) w) (r3:relV w κ (fun v u=>liveV w κ m N h v u∧nameOk A v) none v u):
  o.wp P a w (fun a' w'=>∃ κ' m' u,a'=a.put o.dst u∧
   relV w' κ' (fun v u=>liveV w' κ' m' N (fun j=>bif (f&&mem j F)||(Nat.ble n j&&Nat.blt j n') then h1 j else h j) v u∧nameOk (fun i=>A i∨(n≤i∧i < n')) v) none v u∧
   RelN (fun i=>A i∨(n≤i∧i < n')) w' κ' m' N s (fun j=>bif (f&&mem j F)||(Nat.ble n j&&Nat.blt j n') then h1 j else h j) a∧Stp κ w κ' w'∧
   ∀ v u,(liveV w κ m N h v u∧nameOk A v)→liveV w' κ' m' N (fun j=>bif (f&&mem j F)||(Nat.ble n j&&Nat.blt j n') then h1 j else h j) v u∧nameOk (fun i=>A i∨(n≤i∧i < n')) v) (fun _ _ _=>False):=by
 subst hf hn'
 have hh:(fun j=>bif (false&&mem j F)||(Nat.ble n' j&&Nat.blt j n') then h1 j else h j)=h:=by
  funext j
  have:(Nat.ble n' j&&Nat.blt j n')=false:=by
   cases e1:(Nat.ble n' j&&Nat.blt j n') with
   | false=>rfl
   | true=>
    simp only[Bool.and_eq_true] at e1
    have:=bleT.1 e1.1
    have:=bltT.1 e1.2
    omega
  rw[this];rfl
 have hA:(fun i=>A i∨(n'≤i∧i < n'))=A:=by
  funext i
  exact propext ⟨fun h=>h.elim id fun h=>(by omega),.inl⟩
 rw[hh,hA]
 unfold Oper.wp
 rw[hr]
 exact ⟨κ,m,_,rfl,r3,R,Stp.refl _ _,fun _ _ h=>h⟩
theorem frame_lite (T:TOk P tt) {A:Nat→Prop} (R:RelN A w κ m N s h a) {o:Oper} {v:AV} {f:Bool} {h1:Heap} {F:List Nat} {se:Slots} (hl:lite tt h se o.op=some (v,F)) (hf:f=false) (hn':n'=n)
  (hse:∀ t,usesT t o.op.operands.toList=true→(se t).map norm=(s t).map norm):
  o.wp P a w (fun a' w'=>∃ κ' m' u,a'=a.put o.dst u∧
   relV w' κ' (fun v u=>liveV w' κ' m' N (fun j=>bif (f&&mem j F)||(Nat.ble n j&&Nat.blt j n') then h1 j else h j) v u∧nameOk (fun i=>A i∨(n≤i∧i < n')) v) none v u∧
   RelN (fun i=>A i∨(n≤i∧i < n')) w' κ' m' N s (fun j=>bif (f&&mem j F)||(Nat.ble n j&&Nat.blt j n') then h1 j else h j) a∧Stp κ w κ' w'∧
   ∀ v u,(liveV w κ m N h v u∧nameOk A v)→liveV w' κ' m' N (fun j=>bif (f&&mem j F)||(Nat.ble n j&&Nat.blt j n') then h1 j else h j) v u∧nameOk (fun i=>A i∨(n≤i∧i < n')) v) (fun _ _ _=>False):=by
 rcases lite_some hl with ⟨t,i,r,c,ho,hs,rfl,rfl⟩ | ⟨ty,t,fi,i,r,c,row,hs,ti,fs,off,ft,ho,h2,h3,h4,h5,h6,rfl,rfl⟩ | ⟨ty,t,i,r,c,row,hs,j,ti,e,ho,h2,h3,h4,h5,h6,h7,h8,rfl,rfl⟩ | ⟨t,i,r,c,row,hs,ho,h2,h3,rfl,rfl⟩ | ⟨ty,t,i,r,c,row,hs,ti,k,k',nn,ho,h2,h3,h4,h5,h6,h7,h8,rfl,rfl⟩
 ·have hst:=norm_ptr hs (hse t (by rw[ho];simp[Op.operands,usesT]))
  refine frame_pure (u:=a.tmps.getD t undef) R hf hn' ?_ (R.slot t _ hst).2
  unfold execOp
  rw[ho];rfl
 ·have hst:=norm_ptr h2 (hse t (by rw[ho];simp[Op.operands,usesT]))
  have hx:liveV w κ m N h (.ptr i r c) (a.tmps.getD t undef)∧A i:=(R.slot t _ hst).2
  have hp:=ptr_addr (show relV w κ (liveV w κ m N h) none (.ptr i r c) (a.tmps.getD t undef) from hx.1) h3
  have hu:=T.kind ty ti h4
  rw[h5] at hu
  obtain ⟨fields,hu,hfs,hall⟩:=hu
  obtain ⟨fd,hfd,hoff⟩:∃ fd,fields[fi]?=some fd∧fd.offset=off:=by
   subst hfs
   rw[List.getElem?_map] at h6
   cases hq:fields.toList[fi]? with
   | none=>rw[hq] at h6;cases h6
   | some fd=>rw[hq] at h6;simp at h6;exact ⟨fd,by simpa using hq,h6.1⟩
  obtain ⟨ff,hi,h0⟩:=hall fd (by have:=Array.mem_of_getElem? hfd;simpa using this)
  refine frame_pure (u:= .pointer (some ⟨(m i).block,(m i).off+cellOff (.box row hs) r c+off,none⟩)) R hf hn' ?_ ?_
  ·unfold execOp
   rw[ho]
   have he:a.eval (.tmp t)= .pointer (some ⟨(m i).block,(m i).off+cellOff (.box row hs) r c,none⟩):=hp
   simp only[he,Sem.run_bind,fieldAt_run hu hfd hi h0,Result.andThen_ok,Sem.run_pure,hoff]
  ·have:=addr_ptr (w:=w) (κ:=κ) (m:=m) (n:=N) (r:=r) (c:=c+off) h3 (R.lt i hx.2)
   refine ⟨?_,hx.2⟩
   rw[Nat.add_assoc]
   exact this
 ·have hst:=norm_ptr h2 (hse t (by rw[ho];simp[Op.operands,usesT]))
  have hx:liveV w κ m N h (.ptr i r c) (a.tmps.getD t undef)∧A i:=(R.slot t _ hst).2
  have hp:=ptr_addr (show relV w κ (liveV w κ m N h) none (.ptr i r c) (a.tmps.getD t undef) from hx.1) h3
  have hB:=(R.blk i _ h3).2
  have hc:cellAt (.box row hs) 0 c=some row[c]:=by simp[cellAt,h8]
  obtain ⟨u,hu,hr⟩:=relBlk_cell hB hc
  have hr2:relCell w κ (fun v u=>liveV w κ m N h v u∧nameOk A v) i hs 0 c row[c] u:=hr
  unfold relCell at hr2
  rw[holeIn_find hB.1 h4] at hr2
  refine frame_pure (u:=u) R hf hn' ?_ hr2
  have hst1:isStruct ti=false:=by unfold isStruct;rw[h7]
  have h9:=run_load_op (P:=P) (w:=w) T (x:= .tmp t) ho h5 (b:=(m i).block) (off:=(m i).off+c) (vs:=[u]) hp (by rw[h6];rfl) (fun j v hj=>by
   cases j with
   | zero=>simp at hj;subst hj;exact hu
   | succ j=>simp at hj)
  rw[hst1] at h9
  exact h9
 ·have hst:=norm_ptr h2 (hse t (by rw[ho];simp[Op.operands,usesT]))
  have hx:liveV w κ m N h (.ptr i r c) (a.tmps.getD t undef)∧A i:=(R.slot t _ hst).2
  have hp:=ptr_addr (show relV w κ (liveV w κ m N h) none (.ptr i r c) (a.tmps.getD t undef) from hx.1) h3
  refine frame_pure (u:=a.tmps.getD t undef) R hf hn' ?_ (R.slot t _ hst).2
  have he:a.eval (.tmp t)= .pointer (some ⟨(m i).block,(m i).off+cellOff (.box row hs) r c,none⟩):=hp
  unfold execOp
  rw[ho]
  have he2:a.tmps.getD t undef=a.eval (.tmp t):=rfl
  rw[he2]
  simp[he]
 ·have hst:=norm_ptr h2 (hse t (by rw[ho];simp[Op.operands,usesT]))
  have hx:liveV w κ m N h (.ptr i r c) (a.tmps.getD t undef)∧A i:=(R.slot t _ hst).2
  have hp:=ptr_addr (show relV w κ (liveV w κ m N h) none (.ptr i r c) (a.tmps.getD t undef) from hx.1) h3
  have hB:=(R.blk i _ h3).2
  rw[nthA_eq] at h8
  have hc:cellAt (.box row hs) 0 c=some (.int k nn):=by simp[cellAt,h8]
  obtain ⟨u,hu,hr⟩:=relBlk_cell hB hc
  have hr2:relCell w κ (fun v u=>liveV w κ m N h v u∧nameOk A v) i hs 0 c (.int k nn) u:=hr
  unfold relCell at hr2
  rw[holeIn_none h4] at hr2
  refine frame_pure (u:=u) R hf hn' ?_ hr2
  have hst1:isStruct ti=false:=by unfold isStruct;rw[h7]
  have h9:=run_load_op (P:=P) (w:=w) T (x:= .tmp t) ho h5 (b:=(m i).block) (off:=(m i).off+c) (vs:=[u]) hp (by rw[h6];rfl) (fun j v hj=>by
   cases j with
   | zero=>simp at hj;subst hj;exact hu
   | succ j=>simp at hj)
  rw[hst1] at h9
  exact h9
theorem norm_own {x y:Option AV} {i:Nat} (hx:x=some (.own i)) (h:x.map norm=y.map norm):y=some (.own i):=by
 subst hx
 cases y with
 | none=>cases h
 | some v=>
  simp only[Option.map_some,Option.some.injEq] at h
  cases v<;>simp only[norm] at h<;>first | (rw[h];done) | cases h
theorem liteS_some {tt:TypeId→Option TI} {h:Heap} {s:Slots} {op:Op} {i:Nat} {b:Blk} (hl:liteS tt h s op=some (i,b)):
  ∃ ty t x r c j row hs ti,op= .store ty (.tmp t) (.tmp x)∧s t=some (.ptr i r c)∧s x=some (.own j)∧h i=some (.box row hs)∧tt ty=some ti∧ti.size=1∧c < row.length∧b= .box (setN row c) (⟨0,c,j⟩::dropH c hs):=by
 unfold liteS at hl
 split at hl
 ·split at hl
  ·split at hl
   ·split at hl
    ·split at hl
     ·split at hl
      ·rename_i hbl
       injection hl with hl
       injection hl with h1 h2
       subst h1
       exact ⟨_,_,_,_,_,_,_,_,_,rfl,by assumption,by assumption,by assumption,by assumption,rfl,bltT.1 hbl,h2.symm⟩
      ·cases hl
     ·cases hl
    ·cases hl
   ·cases hl
  ·cases hl
 ·cases hl
theorem liteS_agree {tt:TypeId→Option TI} {h h':Heap} {s:Slots} {op:Op} {i:Nat} {b:Blk} (hl:liteS tt h s op=some (i,b)) (hh:h' i=h i):liteS tt h' s op=some (i,b):=by
 obtain ⟨ty,t,x,r,c,j,row,hs,ti,rfl,h1,h2,h3,h4,h5,h6,h7⟩:=liteS_some hl
 simp only[liteS] at hl⊢
 rw[h1,h2] at hl⊢
 dsimp only at hl⊢
 rw[hh];exact hl
theorem setN_get:∀ (row:List AV) (c:Nat),c < row.length→∀ k:Nat,(setN row c)[k]?=if k=c then some .nilp else row[k]?
 | [],c,h,k=>by simp at h
 | v::row,0,h,k=>by
  cases k with
  | zero=>simp[setN]
  | succ k=>simp[setN]
 | v::row,c+1,h,k=>by
  cases k with
  | zero=>simp[setN]
  | succ k=>
   have:=setN_get row c (by simpa using h) k
   simp only[setN,List.getElem?_cons_succ,this]
   simp
theorem dropH_mem {c:Nat}:∀ {hs:List Hole},∀ x∈dropH c hs,x∈hs
 | [],x,hx=>by simp[dropH] at hx
 | y::hs,x,hx=>by
  obtain ⟨r,c',id⟩:=y
  rw[dropH] at hx
  cases e:(Nat.ble c c'&&Nat.blt c' (c+1)) with
  | true=>rw[e] at hx;exact List.mem_cons_of_mem _ (dropH_mem x hx)
  | false=>
   rw[e] at hx
   rcases List.mem_cons.1 hx with g | g
   ·rw[g];exact List.mem_cons_self
   ·exact List.mem_cons_of_mem _ (dropH_mem x g)
theorem dropH_find {c:Nat}:∀ {hs:List Hole} {r c':Nat},findHole (dropH c hs) r c'=if c'=c then none else findHole hs r c'
 | [],r,c'=>by simp[dropH,findHole]
 | y::hs,r,c'=>by
  obtain ⟨r1,c1,id⟩:=y
  have ih:=@dropH_find c hs r c'
  rw[dropH]
  cases e:(Nat.ble c c1&&Nat.blt c1 (c+1)) with
  | true=>
   simp only[Bool.and_eq_true,bleT,bltT] at e
   have:c1=c:=by omega
   subst this
   rw[cond_true,ih]
   by_cases g:c'=c1
   ·rw[if_pos g,if_pos g]
   ·rw[if_neg g,if_neg g]
    have g2:(r1 == r&&c1 == c')=false:=by
     have:(c1 == c')=false:=by simp;omega
     rw[this,Bool.and_false]
    simp only[findHole,List.find?_cons,g2]
  | false=>
   rw[cond_false]
   have g0:c1≠c:=fun e2=>by
    subst e2
    have:(Nat.ble c1 c1&&Nat.blt c1 (c1+1))=true:=by
     rw[bleT.2 (Nat.le_refl _),bltT.2 (Nat.lt_succ_self _)];rfl
    rw[this] at e;cases e
   cases g1:(r1 == r&&c1 == c') with
   | true=>
    have:c1=c':=by simp at g1;exact g1.2
    subst this
    rw[if_neg g0]
    simp only[findHole,List.find?_cons,g1]
   | false=>
    have e3:findHole (⟨r1,c1,id⟩::dropH c hs) r c'=findHole (dropH c hs) r c':=by simp only[findHole,List.find?_cons,g1]
    have e4:findHole (⟨r1,c1,id⟩::hs) r c'=findHole hs r c':=by simp only[findHole,List.find?_cons,g1]
    rw[e3,e4,ih]
theorem RelN.store {A:Nat→Prop} (R:RelN A w κ m N s h a) {id:Nat} {b:Nat} {C C':Array Value} {t:TypeId} {fr:Nat×Nat} (hb:b=(m id).block) (hκ:κ b=some (.key (id,[]))) (hw:w.heap[b]?=some (.cells C t fr)) (hC:C'.size=C.size) {B':Blk} (hs:shp (some B')=shp (h id)) (hid:A id)
  (hB:∀ L',(∀ v u,(liveV w κ m N h v u∧nameOk A v)→L' v u)→ImmMap w (w.setRow b C') κ κ→(∀ r c,KeyMap w (w.setRow b C') κ κ (some (id,[(r,c)])) (some (id,[(r,c)])))→(w.setRow b C').heap[b]?=some (.cells C' t fr)→relBlk (w.setRow b C') κ m L' id B'):
  RelN A (w.setRow b C') κ m N s (upd h id (some B')) a∧Stp κ w κ (w.setRow b C')∧∀ v u,liveV w κ m N h v u→liveV (w.setRow b C') κ m N (upd h id (some B')) v u:=by
 have hne:∀ x,x≠b→(w.setRow b C').heap[x]?=w.heap[x]?:=fun x hx=>setRow_other w b x C' hx
 have hnew:=setRow_heap w b C C' t fr hw
 have hI:ImmMap w (w.setRow b C') κ κ:=fun x hx=>⟨hx,hne x fun e=>by subst e;rw[hκ] at hx;cases hx⟩
 have hkey:∀ K:Key,K≠(id,[])→∀ x,κ x=some (.key K)→(w.setRow b C').heap[x]?=w.heap[x]?:=fun K hK x hx=>hne x fun e=>by subst e;rw[hκ] at hx;injection hx with hx;injection hx with hx;exact hK hx.symm
 have hL:∀ v u,liveV w κ m N h v u→liveV (w.setRow b C') κ m N (upd h id (some B')) v u:=liveV_keep (Nat.le_refl _) fun i hi=>by
  right
  by_cases e:i=id
  ·subst e
   refine ⟨by rw[upd_eq];exact hs,rfl,fun _ _ k N hk=>?_⟩
   obtain ⟨h1,C1,t1,fr1,h2,h3,h4,h5⟩:=hk
   rw[←hb,hw] at h2
   injection h2 with h2;injection h2 with h2 h2' h2'';subst h2;subst h2';subst h2''
   exact ⟨h1,C',t,fr,by rw[←hb];exact hnew,⟨fun j hj=>h3.1 j (by omega),fun hk9=>by have:=h3.2 hk9;omega⟩,h4,by omega⟩
  ·refine ⟨by rw[upd_ne _ _ e],rfl,fun _ _ k N hk=>hk.move fun hx=>⟨hx,hkey _ (fun e2=>by injection e2 with e2 _;exact e e2) _ hx⟩⟩
 have hLA:∀ v u,(liveV w κ m N h v u∧nameOk A v)→(liveV (w.setRow b C') κ m N (upd h id (some B')) v u∧nameOk A v):=fun v u g=>⟨hL v u g.1,g.2⟩
 refine ⟨⟨fun t v ht=>⟨(R.slot t v ht).1,relV_move hI hLA v none none _ .none_ (R.slot t v ht).2⟩,fun i b' hi=>?_,fun x g hx=>?_,R.fresh,R.lt⟩,⟨rfl,rfl,rfl,by simp,fun x hx hK=>hne x fun e=>by subst e;exact hK _ hκ,fun x hx=>hx,fun x _ hx=>hx,fun x C0 t0 fr0 hx=>(by
  by_cases e:x=b
  ·subst e
   rw[hw] at hx;injection hx with hx;injection hx with hx hx' hx'';subst hx;subst hx';subst hx''
   exact ⟨C',hnew,hC⟩
  ·exact ⟨C0,(hne x e).trans hx,rfl⟩)⟩,hL⟩
 ·by_cases e:i=id
  ·subst e
   rw[upd_eq] at hi
   injection hi with hi;subst hi
   exact ⟨hid,hB _ hLA hI (fun r c=>⟨_,rfl,fun q x hx=>⟨hx,hkey _ (by simp) _ hx⟩⟩) hnew⟩
  ·rw[upd_ne _ _ e] at hi
   refine ⟨(R.blk i b' hi).1,relBlk_move hI hLA ⟨_,rfl,fun q x hx=>⟨hx,hkey _ (fun e2=>by injection e2 with e2 _;exact e e2) _ hx⟩⟩ rfl (R.blk i b' hi).2⟩
 ·have:=R.low x g hx;simpa using this
theorem frame_liteS (T:TOk P tt) {A:Nat→Prop} (R:RelN A w κ m N s h a) {o:Oper} {v:AV} {f:Bool} {h1:Heap} {F:List Nat} {se:Slots} {i:Nat} {b:Blk} (hl:liteS tt h se o.op=some (i,b)) (hv:v= .und) (hF:F=[i]) (hf:f=true) (hn':n'=n) (h1i:h1 i=some b)
  (hse:∀ t,usesT t o.op.operands.toList=true→(se t).map norm=(s t).map norm):
  o.wp P a w (fun a' w'=>∃ κ' m' u,a'=a.put o.dst u∧
   relV w' κ' (fun v u=>liveV w' κ' m' N (fun j=>bif (f&&mem j F)||(Nat.ble n j&&Nat.blt j n') then h1 j else h j) v u∧nameOk (fun i=>A i∨(n≤i∧i < n')) v) none v u∧
   RelN (fun i=>A i∨(n≤i∧i < n')) w' κ' m' N s (fun j=>bif (f&&mem j F)||(Nat.ble n j&&Nat.blt j n') then h1 j else h j) a∧Stp κ w κ' w'∧
   ∀ v u,(liveV w κ m N h v u∧nameOk A v)→liveV w' κ' m' N (fun j=>bif (f&&mem j F)||(Nat.ble n j&&Nat.blt j n') then h1 j else h j) v u∧nameOk (fun i=>A i∨(n≤i∧i < n')) v) (fun _ _ _=>False):=by
 subst hf hn' hv hF
 obtain ⟨ty,t,x,r,c,j,row,hs,ti,ho,h2,h3,h4,h5,h6,h7,rfl⟩:=liteS_some hl
 have hh:(fun q=>bif (true&&mem q [i])||(Nat.ble n' q&&Nat.blt q n') then h1 q else h q)=upd h i (some (.box (setN row c) (⟨0,c,j⟩::dropH c hs))):=by
  funext q
  have h0:(Nat.ble n' q&&Nat.blt q n')=false:=by
   cases e1:(Nat.ble n' q&&Nat.blt q n') with
   | false=>rfl
   | true=>
    simp only[Bool.and_eq_true] at e1
    have:=bleT.1 e1.1
    have:=bltT.1 e1.2
    omega
  rw[h0]
  by_cases e:q=i
  ·subst e
   have:mem q [q]=true:=mem_iff.2 (List.mem_singleton.2 rfl)
   rw[this,upd_eq];exact h1i
  ·have:mem q [i]=false:=by
    cases e1:mem q [i] with
    | false=>rfl
    | true=>exact absurd (List.mem_singleton.1 (mem_iff.1 e1)) e
   rw[this,upd_ne _ _ e];rfl
 have hA:(fun i=>A i∨(n'≤i∧i < n'))=A:=by
  funext i
  exact propext ⟨fun h=>h.elim id fun h=>(by omega),.inl⟩
 rw[hh,hA]
 have hst:=norm_ptr h2 (hse t (by rw[ho];simp[Op.operands,usesT]))
 have hsx:=norm_own h3 (hse x (by rw[ho];simp[Op.operands,usesT]))
 have hx:liveV w κ m N h (.ptr i r c) (a.tmps.getD t undef)∧A i:=(R.slot t _ hst).2
 have hy:liveV w κ m N h (.own j) (a.tmps.getD x undef)∧A j:=(R.slot x _ hsx).2
 have hp:a.eval (.tmp t)= .pointer (some ⟨(m i).block,(m i).off+c,none⟩):=ptr_addr (show relV w κ (liveV w κ m N h) none (.ptr i r c) (a.tmps.getD t undef) from hx.1) h4
 obtain ⟨h0,hsp,C,t0,fr,hw,hfr,hκ,hrow⟩:=(R.blk i _ h4).2
 obtain ⟨A9,l9,cp9,e9⟩:=hy.1.2.1
 have hus:(a.eval (.tmp x)).cells= #[a.eval (.tmp x)]:=by
  show (a.tmps.getD x undef).cells= #[a.tmps.getD x undef]
  rw[e9];rfl
 have hCr:(m i).off+row.length≤C.size:=relHRow_len hrow (fun e=>by rw[e] at h7;simp at h7)
 have hone:∀ v∈(a.eval (.tmp x)).cells.toList,v.oneCell'=true:=fun v hv=>by
  rw[hus] at hv
  have hv:v=a.eval (.tmp x):=by simpa using hv
  have e10:a.eval (.tmp x)= .slice A9 l9 cp9:=e9
  rw[hv,e10];rfl
 obtain ⟨C',hrun,f1,f2⟩:=storeRun (P:=P) T ho h5 (y:= .tmp x) hp hw hfr (by rw[h6,hus];rfl) (by omega) hone
 obtain ⟨R',S',hL⟩:=R.store (B':= .box (setN row c) (⟨0,c,j⟩::dropH c hs)) rfl hκ hw f1 (by rw[h4];rfl) hx.2 (fun L' hL hI hK hw'=>by
  refine ⟨fun z hz=>?_,hsp,C',t0,fr,hw',⟨fun j hj=>hfr.1 j (by omega),fun hk9=>by have:=hfr.2 hk9;omega⟩,hκ,relHRow_mk fun k z hz=>?_⟩
  ·rcases List.mem_cons.1 hz with hz | hz
   ·rw[hz]
   ·exact h0 z (dropH_mem z hz)
  ·rw[setN_get row c h7] at hz
   rw[f2,h6,Nat.zero_add]
   by_cases e:k=c
   ·subst e
    rw[if_pos (by omega)]
    refine ⟨a.eval (.tmp x),by rw[hus,show (m i).off+k - ((m i).off+k)=0 by omega];rfl,?_⟩
    have:findHole (⟨0,k,j⟩::dropH k hs) 0 k=some j:=by simp[findHole]
    unfold relCell
    rw[this]
    exact hL _ _ hy
   ·rw[if_neg e] at hz
    rw[if_neg (by omega)]
    obtain ⟨u,hu,hr⟩:=relHRow_get hrow hz
    rw[Nat.zero_add] at hr
    refine ⟨u,hu,?_⟩
    have hr2:=relCell_move hI hL (hK _ _) hr
    have e2:findHole (⟨0,c,j⟩::dropH c hs) 0 k=findHole hs 0 k:=by
     have e3:findHole (⟨0,c,j⟩::dropH c hs) 0 k=findHole (dropH c hs) 0 k:=by
      have:((0:Nat) == 0&&c == k)=false:=by simp;omega
      simp only[findHole,List.find?_cons,this]
     rw[e3,dropH_find,if_neg e]
    unfold relCell at hr2⊢
    rw[e2];exact hr2)
 unfold Oper.wp
 rw[hrun]
 exact ⟨κ,m,undef,rfl,trivial,R',S',fun v u g=>⟨hL v u g.1,g.2⟩⟩
theorem frame_op (T:TOk P tt) (HC:∀ f args res outs,C f args res outs→Contract P f args res outs) {A:Nat→Prop} (R:RelN A w κ m N s h a) {o:Oper} {v:AV} {f:Bool} {h1:Heap} {F:List Nat} {se:Slots}
  (hop:aop C tt n o (onlyS (seeS se o.op) o.op.operands.toList) (restr h F) (fun a b c d=>a=f∧b=n'∧c=v∧d=h1))
  (hse:∀ t,usesT t o.op.operands.toList=true→(se t).map norm=(s t).map norm) (hFn:∀ i∈F,i < n)
  (hops:∀ t,usesT t o.op.operands.toList=true→∀ v,seeS se o.op t=some v→okN F 0 0 v=true) (hB0:∀ i∈F,∀ b,h i=some b→∀ x∈holesB b,x.id∈F)
  (hA:∀ i,A i→¬ (n≤i∧i < n')) (hFA:∀ i∈F,A i) (hN:n'≤N) (hvn:okN F n n' v=true)
  (hB1:∀ i,Told F n n' i→(f=true∨n≤i)→∀ b,h1 i=some b→∀ x∈holesB b,Told F n n' x.id):
  o.wp P a w (fun a' w'=>∃ κ' m' u,a'=a.put o.dst u∧
   relV w' κ' (fun v u=>liveV w' κ' m' N (fun j=>bif (f&&mem j F)||(Nat.ble n j&&Nat.blt j n') then h1 j else h j) v u∧nameOk (fun i=>A i∨(n≤i∧i < n')) v) none v u∧
   RelN (fun i=>A i∨(n≤i∧i < n')) w' κ' m' N s (fun j=>bif (f&&mem j F)||(Nat.ble n j&&Nat.blt j n') then h1 j else h j) a∧Stp κ w κ' w'∧
   ∀ v u,(liveV w κ m N h v u∧nameOk A v)→liveV w' κ' m' N (fun j=>bif (f&&mem j F)||(Nat.ble n j&&Nat.blt j n') then h1 j else h j) v u∧nameOk (fun i=>A i∨(n≤i∧i < n')) v) (fun _ _ _=>False):=by
 have hsee:∀ v u,nameOk (· ∈F) v→liveV w κ m N h v u→liveV w (hideG F κ) m n (restr h F) v u:=liveV_at (· ∈F) (fun i hi _=>hFn i hi) fun i hi _=>
  .inr ⟨by rw[restr_in hi],rfl,fun _ _ k N hk=>hk.move fun hx=>⟨hideG_in hx hi,rfl⟩⟩
 have hIs:ImmMap w w κ (hideG F κ):=fun b hb=>⟨by simp[hideG,hb],rfl⟩
 have hKs:∀ i,i∈F→KeyMap w w κ (hideG F κ) (some (i,[])) (some (i,[])):=fun i hi=>⟨_,rfl,fun q b hb=>⟨hideG_in hb hi,rfl⟩⟩
 have Rs:Rel w (hideG F κ) m n (onlyS (seeS se o.op) o.op.operands.toList) (restr h F) a:=by
  refine ⟨fun t v ht=>?_,fun id b hb=>?_,fun b g hb=>?_,fun b id p hb=>?_⟩
  ·simp only[onlyS] at ht
   cases hu:usesT t o.op.operands.toList with
   | false=>rw[hu] at ht;cases ht
   | true=>
    rw[hu] at ht
    simp only[cond_true] at ht
    have hv9:=hops t hu v ht
    obtain ⟨v9,he9,e9⟩:=seeS_some (w:=w) (κ:=κ) ht
    have hs:=hse t hu
    rw[he9] at hs
    cases hst:s t with
    | none=>rw[hst] at hs;cases hs
    | some v0=>
     rw[hst] at hs
     simp only[Option.map_some,Option.some.injEq] at hs
     obtain ⟨r1,r2⟩:=R.slot t v0 hst
     refine ⟨r1,?_⟩
     have r3:relV w κ (fun v u=>liveV w κ m N h v u∧nameOk A v) none v9 (a.tmps.getD t undef):=by
      refine norm_rel ?_
      rw[hs]
      cases v0<;>exact r2
     have r4:relV w κ (fun v u=>liveV w κ m N h v u∧nameOk A v) none v (a.tmps.getD t undef):=by
      exact e9 r3
     exact relV_names (F:=F) (n:=0) (n':=0) hIs (fun v u hn hl=>hsee v u (nameOk_mono (fun i hi=>by rcases hi with hi | hi;exact hi;omega) hn) hl.1) hv9 r4
  ·by_cases hi:id∈F
   ·rw[restr_in hi] at hb
    exact ⟨hFn id hi,relBlk_names hIs (fun i u hx hl=>by
     obtain ⟨x,hx,e⟩:=hx
     have:=hB0 id hi b hb x hx
     exact hsee _ _ (by rw[←e];exact this) hl.1) (hKs id hi) rfl (R.blk id b hb).2⟩
   ·rw[restr_out hi] at hb;cases hb
  ·cases e:κ b with
   | none=>simp[hideG,e] at hb
   | some g'=>exact R.low b g' e
  ·unfold hideG at hb
   split at hb
   ·rename_i K hK
    cases e:mem K.1 F with
    | false=>rw[e] at hb;cases hb
    | true=>
     rw[e] at hb
     injection hb with hb
     injection hb with hb
     subst hb
     exact hFn _ (mem_iff.1 e)
   ·rename_i hne
    exact absurd hb (hne _)
 refine Oper.wp_mono2 (fun a' w' hp=>?_) (fun _ _ _ h=>h) (aop_sound T HC Rs hop)
 obtain ⟨f',n1,v',h1',κ',m',u,⟨e1,e2,e3,e4⟩,hn,rfl,hv',R',S',hkeep,hm,hLp⟩:=hp
 subst e1;subst e2;subst e3;subst e4
 let κ2:Gh:=showG F n n1 κ κ'
 let m2:Nat→Addr:=fun j=>bif mem j F||(Nat.ble n j&&Nat.blt j n1) then m' j else m j
 let h2:Heap:=fun j=>bif (f'&&mem j F)||(Nat.ble n j&&Nat.blt j n1) then h1' j else h j
 have hhid:∀ b K,κ b=some (.key K)→K.1∉F→κ' b=none∧w'.heap[b]?=w.heap[b]?:=fun b K hb hF=>
  ⟨S'.none_ b (R.low b _ hb) (hideG_out hb hF),S'.kept b (R.low b _ hb) fun K' e=>by rw[hideG_out hb hF] at e;cases e⟩
 have k1:∀ b K,κ' b=some (.key K)→Told F n n1 K.1→κ2 b=some (.key K):=fun b K hb hT=>by
  have ht:=told_iff.2 hT
  simp only[κ2,showG]
  cases e:κ b with
  | none=>simp only;rw[hb];simp only;rw[ht];rfl
  | some g=>cases g with
   | imm=>
    have:=S'.imm b (by simp[hideG,e])
    rw[this] at hb;cases hb
   | key K0=>
    by_cases hF:K0.1∈F
    ·simp only;rw[mem_iff.2 hF];simp only[cond_true];rw[hb];simp only;rw[ht];rfl
    ·rw[(hhid b K0 e hF).1] at hb;cases hb
 have k2:∀ b,κ' b=some .imm→κ2 b=some .imm:=fun b hb=>by
  simp only[κ2,showG]
  cases e:κ b with
  | none=>simp only;rw[hb]
  | some g=>cases g with
   | imm=>rfl
   | key K0=>
    by_cases hF:K0.1∈F
    ·simp only;rw[mem_iff.2 hF];simp only[cond_true];rw[hb]
    ·rw[(hhid b K0 e hF).1] at hb;cases hb
 have k3:∀ b K,κ b=some (.key K)→K.1∉F→κ2 b=some (.key K)∧w'.heap[b]?=w.heap[b]?:=fun b K hb hF=>⟨by
  have:mem K.1 F=false:=by cases e:mem K.1 F with | false=>rfl | true=>exact absurd (mem_iff.1 e) hF
  simp only[κ2,showG,hb];rw[this];rfl,(hhid b K hb hF).2⟩
 have k4:ImmMap w w' κ κ2:=fun b hb=>⟨by simp only[κ2,showG,hb],S'.kept b (R.low b _ hb) fun K e=>by simp[hideG,hb] at e⟩
 have hI2:ImmMap w' w' κ' κ2:=fun b hb=>⟨k2 b hb,rfl⟩
 have hStp:Stp κ w κ2 w':=⟨S'.os,S'.tape,S'.output,S'.size,fun b hb hk=>S'.kept b hb fun K e=>by
   cases e2:κ b with
   | none=>simp[hideG,e2] at e
   | some g=>cases g with
    | imm=>simp[hideG,e2] at e
    | key K'=>exact hk K' e2,fun b hb=>(k4 b hb).1,fun b hb hk=>by
   have:κ' b=none:=S'.none_ b hb (by simp[hideG,hk])
   simp only[κ2,showG,hk];rw[this],S'.cells⟩
 have htold:∀ i,Told F n n1 i→m2 i=m' i:=fun i hi=>by simp only[m2];rw[told_iff.2 hi];rfl
 have hout:∀ i,¬ Told F n n1 i→m2 i=m i∧h2 i=h i:=fun i hi=>by
  have:(mem i F||(Nat.ble n i&&Nat.blt i n1))=false:=by
   cases e:(mem i F||(Nat.ble n i&&Nat.blt i n1)) with | false=>rfl | true=>exact absurd (told_iff.1 e) hi
  refine ⟨by simp only[m2];rw[this];rfl,?_⟩
  simp only[Bool.or_eq_false_iff] at this
  simp only[h2];rw[this.1,this.2];simp
 have hin:∀ i,Told F n n1 i→h2 i=h1' i:=fun i hi=>by
  simp only[h2]
  rcases hi with hi | hi
  ·cases hf:f' with
   | true=>rw[mem_iff.2 hi];rfl
   | false=>
    have h3:¬ (n≤i∧i < n1):=hA i (hFA i hi)
    have:(Nat.ble n i&&Nat.blt i n1)=false:=by
     cases e:(Nat.ble n i&&Nat.blt i n1) with
     | false=>rfl
     | true=>simp only[Bool.and_eq_true,bleT,bltT] at e;exact absurd e h3
    rw[this]
    simp only[Bool.false_and,Bool.or_false,cond_false]
    rw[hkeep hf i (hFn i hi),restr_in hi]
  ·have:(Nat.ble n i&&Nat.blt i n1)=true:=by simp[bleT,bltT,hi]
   rw[this];simp
 have hLift:∀ v u,nameOk (Told F n n1) v→liveV w' κ' m' n1 h1' v u→liveV w' κ2 m2 N h2 v u:=liveV_at (Told F n n1) (fun i _ hi=>Nat.lt_of_lt_of_le hi hN) fun i hi _=>
  .inr ⟨by rw[hin i hi],htold i hi,fun _ _ k N hk=>hk.move fun hx=>⟨k1 _ _ hx hi,rfl⟩⟩
 have hTA:∀ i,Told F n n1 i→A i∨(n≤i∧i < n1):=fun i hi=>hi.imp (hFA i) id
 have hL2:∀ v u,(liveV w κ m N h v u∧nameOk A v)→liveV w' κ2 m2 N h2 v u∧nameOk (fun i=>A i∨(n≤i∧i < n1)) v:=fun v u hl=>by
  refine ⟨?_,nameOk_mono (fun i hi=> .inl hi) hl.2⟩
  rcases nameOk_em F (v:=v) with hF | hF
  ·exact hLift v u (nameOk_mono (fun i hi=> .inl hi) hF) (hLp v u (hsee v u hF hl.1))
  ·refine liveV_at (fun i=>A i∧i∉F) (fun i _ hi=>hi) (fun i hi _=>?_) v u (nameOk_and hl.2 hF) hl.1
   have hno:¬ Told F n n1 i:=fun ht=>by
    rcases ht with ht | ht
    ·exact hi.2 ht
    ·exact hA i hi.1 ht
   obtain ⟨o1,o2⟩:=hout i hno
   exact .inr ⟨by rw[o2],o1,fun _ _ k N hk=>hk.move fun hx=>k3 _ _ hx hi.2⟩
 refine ⟨κ2,m2,u,rfl,relV_names hI2 (fun v u hn hl=>⟨hLift v u hn hl,nameOk_mono hTA hn⟩) hvn hv',⟨fun t v ht=>?_,fun id b hb=>?_,fun b g hb=>?_,fun b id p hb=>?_,fun i hi=>?_⟩,hStp,hL2⟩
 ·exact ⟨(R.slot t v ht).1,relV_move k4 hL2 v none none _ .none_ (R.slot t v ht).2⟩
 ·have hb:h2 id=some b:=hb
  by_cases ht:Told F n n1 id
  ·have hb2:=hb
   rw[hin id ht] at hb
   obtain ⟨_,r⟩:=R'.blk id b hb
   refine ⟨hTA id ht,relBlk_names hI2 (fun i u hx hl=>?_) ⟨_,rfl,fun q b hb=>⟨k1 _ _ hb ht,rfl⟩⟩ (htold id ht) r⟩
   obtain ⟨x,hx,e⟩:=hx
   have hTx:Told F n n1 x.id:=by
    by_cases hc:f'=true∨n≤id
    ·exact hB1 id ht hc b hb x hx
    ·have hidF:id∈F:=by
      rcases ht with ht | ht
      ·exact ht
      ·exact absurd (.inr ht.1) hc
     have hff:f'=false:=by cases e:f' with | false=>rfl | true=>exact absurd (.inl e) hc
     rw[hkeep hff id (hFn id hidF),restr_in hidF] at hb
     exact .inl (hB0 id hidF b hb x hx)
   rw[e] at hTx
   exact ⟨hLift _ _ hTx hl,hTA _ hTx⟩
  ·obtain ⟨o1,o2⟩:=hout id ht
   rw[o2] at hb
   obtain ⟨r1,r2⟩:=R.blk id b hb
   have hF:id∉F:=fun hF=>ht (.inl hF)
   exact ⟨.inl r1,relBlk_move k4 hL2 ⟨_,rfl,fun q b hb=>k3 _ _ hb hF⟩ o1 r2⟩
 ·have hb:κ2 b=some g:=hb
  cases e:κ b with
  | some g'=>exact Nat.lt_of_lt_of_le (R.low b g' e) S'.size
  | none=>
   cases e2:κ' b with
   | some g'=>exact R'.low b g' e2
   | none=>simp only[κ2,showG,e,e2] at hb;cases hb
 ·have hb:κ2 b=some (.key (id,p)):=hb
  have told2:∀ K',(bif mem K'.1 F||(Nat.ble n K'.1&&Nat.blt K'.1 n1) then some (G.key K') else none)=some (.key (id,p))→A id∨(n≤id∧id < n1):=fun K' hK=>by
   cases e:(mem K'.1 F||(Nat.ble n K'.1&&Nat.blt K'.1 n1)) with
   | false=>rw[e] at hK;cases hK
   | true=>
    rw[e] at hK
    injection hK with hK
    injection hK with hK
    subst hK
    exact hTA _ (told_iff.1 e)
  simp only[κ2,showG] at hb
  split at hb
  ·rename_i K0 hK0
   cases e:mem K0.1 F with
   | false=>
    rw[e] at hb
    injection hb with hb
    injection hb with hb
    subst hb
    exact .inl (R.fresh b _ _ hK0)
   | true=>
    rw[e] at hb
    simp only[cond_true] at hb
    split at hb
    ·exact told2 _ hb
    ·rename_i hne;exact absurd hb (hne _)
  ·cases hb
  ·split at hb
   ·exact told2 _ hb
   ·rename_i hne;exact absurd hb (hne _)
 ·rcases hi with hi | hi
  ·exact R.lt i hi
  ·omega
end
end Go.Proofs.VI
end
section
set_option linter.unusedVariables false
set_option linter.unusedSimpArgs false
namespace Go.Proofs.VI
open Go
section
variable {P:Program} {w w' w0:World} {κ κ' κ0 κ3:Gh} {m m':Nat→Addr} {n n' N:Nat} {s s':Slots} {h h':Heap} {a:Act} {L L':AV→Value→Prop} {tt:TypeId→Option TI} {C:FuncId→List AV→AV→List (Option AV)→Prop}
structure Ent where
 o:Oper
 ex:Bool
 n:Nat
 n':Nat
 F:List Nat
 w:Bool
 v:AV
 s:Slots
 h:Heap
 h':Heap
def wr (e:Ent) (j:Nat):Bool:=e.ex&&((e.w&&mem j e.F)||(Nat.ble e.n j&&Nat.blt j e.n'))
def hStep (e:Ent) (h:Heap):Heap:=fun j=>bif wr e j then e.h' j else h j
def hAt (D:Nat→Bool) (i:Nat) (es:List Ent) (h:Heap):Heap:=match es with
 | []=>h
 | e::r=>hAt D (i+1) r (bif D i then hStep e h else h)
def sAt (D:Nat→Bool) (i:Nat) (es:List Ent) (s:Slots):Slots:=match es with
 | []=>s
 | e::r=>sAt D (i+1) r (bif D i then put s e.o.dst e.v else s)
theorem hAt_agree {D D':Nat→Bool} {j:Nat}:∀ {es:List Ent} {i:Nat} {h1 h2:Heap},h1 j=h2 j→(∀ k e,es[k]?=some e→wr e j=true→D (i+k)=D' (i+k))→hAt D i es h1 j=hAt D' i es h2 j
 | [],i,h1,h2,hh,_=>hh
 | e::es,i,h1,h2,hh,hD=>by
  refine hAt_agree (es:=es) ?_ fun k e' he hw=>by
   have:=hD (k+1) e' (by simpa using he) hw
   rwa [show i+(k+1)=i+1+k by omega] at this
  have h0:=hD 0 e rfl
  simp only[Nat.add_zero] at h0
  cases hw:wr e j with
  | true=>
   have hst:∀ hx,hStep e hx j=e.h' j:=fun hx=>by simp[hStep,hw]
   rw[h0 hw]
   cases D' i with
   | true=>simp only[cond_true];rw[hst,hst]
   | false=>exact hh
  | false=>
   have hst:∀ hx,hStep e hx j=hx j:=fun hx=>by simp[hStep,hw]
   cases D i<;>cases D' i<;>simp only[cond_true,cond_false]<;>simp only[hst,hh]
theorem put_at (s:Slots) (d:Option Nat) (v:AV) (t:Nat):put s d v t=if d=some t then some v else s t:=by
 cases d with
 | none=>rfl
 | some d=>
  by_cases e:t=d
  ·subst e;simp[VI.put,upd_eq]
  ·rw[show put s (some d) v t=s t from upd_ne _ _ e,if_neg (by simpa using Ne.symm e)]
theorem sAt_agree {D D':Nat→Bool} {t:Nat}:∀ {es:List Ent} {i:Nat} {s1 s2:Slots},s1 t=s2 t→(∀ k e,es[k]?=some e→e.o.dst=some t→D (i+k)=D' (i+k))→sAt D i es s1 t=sAt D' i es s2 t
 | [],i,s1,s2,hh,_=>hh
 | e::es,i,s1,s2,hh,hD=>by
  refine sAt_agree (es:=es) ?_ fun k e' he hw=>by
   have:=hD (k+1) e' (by simpa using he) hw
   rwa [show i+(k+1)=i+1+k by omega] at this
  have h0:=hD 0 e rfl
  simp only[Nat.add_zero] at h0
  by_cases hw:e.o.dst=some t
  ·rw[h0 hw]
   cases D' i with
   | true=>simp only[cond_true];rw[put_at,put_at,if_pos hw,if_pos hw]
   | false=>exact hh
  ·cases D i<;>cases D' i<;>simp only[cond_true,cond_false]<;>simp only[put_at,if_neg hw,hh]
theorem hAt_none {D:Nat→Bool}:∀ {es:List Ent} {i:Nat} {h:Heap},(∀ k,k < es.length→D (i+k)=false)→hAt D i es h=h
 | [],i,h,_=>rfl
 | e::es,i,h,hD=>by
  have h0:=hD 0 (by simp)
  simp only[Nat.add_zero] at h0
  simp only[hAt,h0,cond_false]
  exact hAt_none fun k hk=>by
   have:=hD (k+1) (by simp;omega)
   rwa [show i+(k+1)=i+1+k by omega] at this
theorem sAt_none {D:Nat→Bool}:∀ {es:List Ent} {i:Nat} {s:Slots},(∀ k,k < es.length→D (i+k)=false)→sAt D i es s=s
 | [],i,s,_=>rfl
 | e::es,i,s,hD=>by
  have h0:=hD 0 (by simp)
  simp only[Nat.add_zero] at h0
  simp only[sAt,h0,cond_false]
  exact sAt_none fun k hk=>by
   have:=hD (k+1) (by simp;omega)
   rwa [show i+(k+1)=i+1+k by omega] at this
def gSlot (all:List Oper) (o:Oper) (d:Nat) (want:Bool):Prop:=∃ j oj,o.guard=some (j,want)∧all[j]?=some oj∧oj.dst=some d
def gYes (all:List Oper) (s:Slots) (o:Oper):Prop:=o.guard=none∨∃ d want,gSlot all o d want∧(s d).map norm=some (.bool want)
def gNo (all:List Oper) (s:Slots) (o:Oper):Prop:=∃ d want,gSlot all o d want∧((s d).map norm=some (.bool (!want))∨(s d).map norm=some (.tup []))
structure EntOk (C:FuncId→List AV→AV→List (Option AV)→Prop) (tt:TypeId→Option TI) (all:List Oper) (s:Slots) (h:Heap) (n:Nat) (e:Ent):Prop where
 n_:e.n=n
 le:e.n≤e.n'
 h_:e.h=h
 s_:∀ t,(e.s t).map norm=(s t).map norm
 no:e.ex=false→gNo all s e.o∧e.v= .tup []∧e.n'=n
 yes:e.ex=true→gYes all s e.o∧(∀ i∈e.F,i < n)∧((aop C tt n e.o (onlyS (seeS e.s e.o.op) e.o.op.operands.toList) (restr h e.F) (fun a b c d=>a=e.w∧b=e.n'∧c=e.v∧d=e.h')∧
  (∀ t,usesT t e.o.op.operands.toList=true→∀ v,seeS e.s e.o.op t=some v→okN e.F 0 0 v=true)∧(∀ i∈e.F,∀ b,h i=some b→∀ x∈holesB b,x.id∈e.F)∧okN e.F n e.n' e.v=true∧
  (∀ i,Told e.F n e.n' i→(e.w=true∨n≤i)→∀ b,e.h' i=some b→∀ x∈holesB b,Told e.F n e.n' x.id))∨(lite tt h e.s e.o.op=some (e.v,e.F)∧e.w=false∧e.n'=n)∨(∃ j b,liteS tt h e.s e.o.op=some (j,b)∧e.F=[j]∧e.h'=upd h j (some b)∧e.v= .und∧e.w=true∧e.n'=n))
def Logged (log:List Log) (i:Nat) (e:Ent):Prop:=e.ex=true→(⟨i,e.F,e.w⟩:Log)∈log∧∀ j,e.n≤j→j < e.n'→∃ l,(⟨i,l,true⟩:Log)∈log∧j∈l
def Trace (C:FuncId→List AV→AV→List (Option AV)→Prop) (tt:TypeId→Option TI) (all:List Oper) (i:Nat) (ops:List Oper) (es:List Ent) (s:Slots) (h:Heap) (n:Nat) (log:List Log) (n2:Nat) (log2:List Log):Prop:=
 match ops,es with
 | [],[]=>n2=n∧log2=log
 | o::ops,e::es=>e.o=o∧EntOk C tt all s h n e∧∃ l,(∀ x∈l,x.i=i)∧Logged l i e∧Trace C tt all (i+1) ops es (put s o.dst e.v) (hStep e h) e.n' (l++log) n2 log2
 | _,_=>False
theorem forceN_eq:∀ {l:List Nat} {K:List Nat→Prop},forceN l K=K l
 | [],K=>rfl
 | i::l,K=>by simp only[forceN];exact forceN_eq (l:=l)
theorem belowN_lt {n:Nat}:∀ {l:List Nat},belowN n l=true→∀ i∈l,i < n
 | [],_,i,hi=>by simp at hi
 | j::l,h,i,hi=>by
  simp only[belowN,Bool.and_eq_true] at h
  rcases List.mem_cons.1 hi with e | hi
  ·rw[e];exact bltT.1 h.1
  ·exact belowN_lt h.2 i hi
theorem okOps_slot {F:List Nat} {s:Slots}:∀ {l:List Operand},okOps F s l=true→∀ t,usesT t l=true→∀ v,s t=some v→okN F 0 0 v=true
 | [],_,t,hu=>by simp[usesT] at hu
 | .tmp u::l,h,t,hu=>fun v hv=>by
  simp only[okOps,Bool.and_eq_true] at h
  simp only[usesT] at hu
  cases hb:Nat.beq t u with
  | true=>
   have:=Nat.eq_of_beq_eq_true hb
   subst this
   have h1:=h.1
   rw[hv] at h1
   exact h1
  | false=>rw[hb] at hu;exact okOps_slot h.2 t hu v hv
 | .const _::l,h,t,hu=>fun v hv=>okOps_slot (l:=l) h t hu v hv
 | .global _::l,h,t,hu=>fun v hv=>okOps_slot (l:=l) h t hu v hv
 | .func _::l,h,t,hu=>fun v hv=>okOps_slot (l:=l) h t hu v hv
theorem news_mem:∀ {k n j:Nat},n≤j→j < n+k→j∈news n k
 | 0,n,j,h1,h2=>by omega
 | k+1,n,j,h1,h2=>by
  simp only[news,List.mem_cons]
  by_cases e:j=n
  ·exact .inl e
  ·exact .inr (news_mem (by omega) (by omega))
theorem merge_step {e:Ent} (he:e.ex=true):merge h e.h' e.F e.w e.n e.n'=hStep e h:=by
 funext j
 simp[merge,hStep,wr,he]
theorem lite_step {e:Ent} {h:Heap} {j:Nat} {b:Blk} (he:e.ex=true) (hF:e.F=[j]) (hh:e.h'=upd h j (some b)) (hw:e.w=true∧e.n'=e.n):hStep e h=upd h j (some b):=by
 obtain ⟨hw,hn⟩:=hw
 funext q
 have h0:(Nat.ble e.n q&&Nat.blt q e.n)=false:=by
  cases e1:(Nat.ble e.n q&&Nat.blt q e.n) with
  | false=>rfl
  | true=>simp only[Bool.and_eq_true,bleT,bltT] at e1;omega
 by_cases e2:q=j
 ·subst e2
  have:mem q [q]=true:=mem_iff.2 (List.mem_singleton.2 rfl)
  simp[hStep,wr,he,hw,hF,hh,hn,this]
 ·have:mem q [j]=false:=by
   cases e1:mem q [j] with
   | false=>rfl
   | true=>exact absurd (List.mem_singleton.1 (mem_iff.1 e1)) e2
  simp[hStep,wr,he,hw,hF,hn,this,h0,upd_ne _ _ e2]
theorem pure_step {e:Ent} (hw:e.w=false) (hn:e.n'=e.n):hStep e h=h:=by
 funext j
 have:(Nat.ble e.n j&&Nat.blt j e.n)=false:=by
  cases e1:(Nat.ble e.n j&&Nat.blt j e.n) with
  | false=>rfl
  | true=>simp only[Bool.and_eq_true,bleT,bltT] at e1;omega
 simp[hStep,wr,hw,hn,this]
theorem skip_step {e:Ent} (he:e.ex=false):hStep e h=h:=by
 funext j
 simp[hStep,wr,he]
theorem map_put {d:Option Nat} {v:AV} {s s':Slots} (hs:∀ t,(s' t).map norm=(s t).map norm) (t:Nat):(put s' d v t).map norm=(put s d v t).map norm:=by
 rw[put_at,put_at]
 split
 ·rfl
 ·exact hs t
theorem aopsD_trace {all:List Oper} {K:Nat→Slots→Heap→List Log→Prop}:∀ {ops:List Oper} {i n:Nat} {s s':Slots} {h:Heap} {log:List Log},(∀ t,(s' t).map norm=(s t).map norm)→aopsD C tt all n i ops s' h log K→
  ∃ es n2 s2 log2,K n2 s2 (hAt (fun _=>true) i es h) log2∧(∀ t,(s2 t).map norm=(sAt (fun _=>true) i es s t).map norm)∧Trace C tt all i ops es s h n log n2 log2
 | [],i,n,s,s',h,log,hs,hk=>⟨[],n,s',log,hk,hs,rfl,rfl⟩
 | o::ops,i,n,s,s',h,log,hs,hk=>by
  have no:∀ {s':Slots},(∀ t,(s' t).map norm=(s t).map norm)→gNo all s o→aopsD C tt all n (i+1) ops (put s' o.dst (.tup [])) h log K→
    ∃ es n2 s2 log2,K n2 s2 (hAt (fun _=>true) i es h) log2∧(∀ t,(s2 t).map norm=(sAt (fun _=>true) i es s t).map norm)∧Trace C tt all i (o::ops) es s h n log n2 log2:=fun {s'} hs hg hk=>by
   obtain ⟨es,n2,s2,log2,a1,a2,a3⟩:=aopsD_trace (map_put hs) hk
   let e:Ent:=⟨o,false,n,n,[],false,.tup [],s',h,h⟩
   have hst:hStep e h=h:=skip_step rfl
   refine ⟨e::es,n2,s2,log2,by show K n2 s2 (hAt _ (i+1) es (hStep e h)) log2;rw[hst];exact a1,a2,rfl,⟨rfl,Nat.le_refl _,rfl,hs,fun _=>⟨hg,rfl,rfl⟩,fun he=>by cases he⟩,[],fun x hx=>(by simp at hx),fun he=>(by cases he),?_⟩
   rw[hst]
   exact a3
  have go:∀ {s':Slots},(∀ t,(s' t).map norm=(s t).map norm)→gYes all s o→(match lite tt h s' o.op with | some (v,F)=>(match belowN n F with | true=>aopsD C tt all n (i+1) ops (put s' o.dst v) h (⟨i,F,false⟩::log) K | false=>False) | none=>match liteS tt h s' o.op with | some (j,b)=>(match belowN n [j] with | true=>aopsD C tt all n (i+1) ops (put s' o.dst .und) (upd h j (some b)) (⟨i,[j],true⟩::log) K | false=>False) | none=>forceN (reach 40 h (idsOps (seeS s' o.op) o.op.operands.toList)) fun F=>(match belowN n F&&(okOps F (seeS s' o.op) o.op.operands.toList&&okB F 0 0 h F) with
   | true=>aop C tt n o (onlyS (seeS s' o.op) o.op.operands.toList) (restr h F) fun w n' v h'=>
    match !w&&Nat.beq n' n with
    | true=>(match okN F n n v with
     | true=>aopsD C tt all n (i+1) ops (put s' o.dst v) h (⟨i,F,false⟩::log) K
     | false=>False)
    | false=>forceN (news n (n' - n)) fun N=>(match Nat.ble n n'&&(okN F n n' v&&(okB F n n' h' F&&okB F n n' h' N)) with
     | true=>aopsD C tt all n' (i+1) ops (put s' o.dst v) (merge h h' F w n n') (⟨i,N,true⟩::⟨i,F,w⟩::log) K
     | false=>False)
   | false=>False))→
    ∃ es n2 s2 log2,K n2 s2 (hAt (fun _=>true) i es h) log2∧(∀ t,(s2 t).map norm=(sAt (fun _=>true) i es s t).map norm)∧Trace C tt all i (o::ops) es s h n log n2 log2:=fun {s'} hs hg hk=>by
   split at hk
   ·rename_i v F hmv
    split at hk
    case h_2=>exact hk.elim
    rename_i hbn
    obtain ⟨es,n2,s2,log2,a1,a2,a3⟩:=aopsD_trace (map_put hs) hk
    let e:Ent:=⟨o,true,n,n,F,false,v,s',h,h⟩
    have hst:hStep e h=h:=pure_step rfl rfl
    refine ⟨e::es,n2,s2,log2,by show K n2 s2 (hAt _ (i+1) es (hStep e h)) log2;rw[hst];exact a1,a2,rfl,⟨rfl,Nat.le_refl _,rfl,hs,fun he=>(by cases he),fun _=>⟨hg,belowN_lt hbn,.inr (.inl ⟨hmv,rfl,rfl⟩)⟩⟩,[⟨i,F,false⟩],fun x hx=>(by simp at hx;rw[hx]),fun _=>⟨List.mem_singleton.2 rfl,fun j h1 h2=>?_⟩,?_⟩
    ·have h2:j < n:=h2
     have h1:n≤j:=h1
     omega
    ·rw[hst]
     exact a3
   split at hk
   ·rename_i j b hsv
    split at hk
    case h_2=>exact hk.elim
    rename_i hbn
    obtain ⟨es,n2,s2,log2,a1,a2,a3⟩:=aopsD_trace (map_put hs) hk
    let e:Ent:=⟨o,true,n,n,[j],true,.und,s',h,upd h j (some b)⟩
    have hst:hStep e h=upd h j (some b):=lite_step rfl rfl rfl ⟨rfl,rfl⟩
    refine ⟨e::es,n2,s2,log2,by show K n2 s2 (hAt _ (i+1) es (hStep e h)) log2;rw[hst];exact a1,a2,rfl,⟨rfl,Nat.le_refl _,rfl,hs,fun he=>(by cases he),fun _=>⟨hg,belowN_lt hbn,.inr (.inr ⟨j,b,hsv,rfl,rfl,rfl,rfl,rfl⟩)⟩⟩,[⟨i,[j],true⟩],fun x hx=>(by simp at hx;rw[hx]),fun _=>⟨List.mem_singleton.2 rfl,fun j h1 h2=>?_⟩,?_⟩
    ·have h2:j < n:=h2
     have h1:n≤j:=h1
     omega
    ·rw[hst]
     exact a3
   rw[forceN_eq] at hk
   generalize reach 40 h (idsOps (seeS s' o.op) o.op.operands.toList)=F at hk
   split at hk
   ·rename_i hpre
    simp only[Bool.and_eq_true] at hpre
    obtain ⟨p1,p2,p3⟩:=hpre
    obtain ⟨w,n',v,h',hk,hre⟩:=aop_ext _ hk
    have hop:=hre (fun a b c d=>a=w∧b=n'∧c=v∧d=h') ⟨rfl,rfl,rfl,rfl⟩
    let e:Ent:=⟨o,true,n,n',F,w,v,s',h,h'⟩
    have q1:=okOps_slot p2
    have q2:∀ i∈F,∀ b,h i=some b→∀ x∈holesB b,x.id∈F:=fun i hi b hb x hx=>by
     rcases okB_told p3 i hi b hb x hx with hT | hT
     ·exact hT
     ·omega
    split at hk
    ·rename_i hp
     simp only[Bool.and_eq_true,Bool.not_eq_true'] at hp
     obtain ⟨hw,hn⟩:=hp
     have hn:=Nat.eq_of_beq_eq_true hn
     split at hk
     ·rename_i hv
      obtain ⟨es,n2,s2,log2,a1,a2,a3⟩:=aopsD_trace (map_put hs) hk
      have hst:hStep e h=h:=pure_step hw hn
      refine ⟨e::es,n2,s2,log2,by show K n2 s2 (hAt _ (i+1) es (hStep e h)) log2;rw[hst];exact a1,a2,rfl,⟨rfl,Nat.le_of_eq hn.symm,rfl,hs,fun he=>(by cases he),fun _=>⟨hg,belowN_lt p1,.inl ⟨hop,q1,q2,by show okN F n n' v=true;rw[hn];exact hv,fun j hj hc=>?_⟩⟩⟩,[⟨i,F,w⟩],fun x hx=>(by simp at hx;rw[hx]),fun _=>⟨List.mem_singleton.2 rfl,fun j h1 h2=>?_⟩,?_⟩
      ·rcases hc with hc | hc
       ·have hc:w=true:=hc
        rw[hw] at hc;cases hc
       ·rcases hj with hj | hj
        ·have:=belowN_lt p1 j hj;omega
        ·have:j < n':=hj.2
         omega
      ·have h2:j < n':=h2
       have h1:n≤j:=h1
       omega
      ·rw[hst]
       show Trace C tt all (i+1) ops es (put s o.dst v) h n' ([⟨i,F,w⟩]++log) n2 log2
       rw[hn,hw]
       exact a3
     ·exact hk.elim
    ·rw[forceN_eq] at hk
     split at hk
     ·rename_i hp
      simp only[Bool.and_eq_true] at hp
      obtain ⟨r1,r2,r3,r4⟩:=hp
      have r1:=bleT.1 r1
      obtain ⟨es,n2,s2,log2,a1,a2,a3⟩:=aopsD_trace (map_put hs) hk
      have hst:merge h h' F w n n'=hStep e h:=merge_step (e:=e) rfl
      rw[hst] at a1 a3
      refine ⟨e::es,n2,s2,log2,a1,a2,rfl,⟨rfl,r1,rfl,hs,fun he=>(by cases he),fun _=>⟨hg,belowN_lt p1,.inl ⟨hop,q1,q2,r2,fun j hj hc=>?_⟩⟩⟩,[⟨i,news n (n' - n),true⟩,⟨i,F,w⟩],fun x hx=>(by simp at hx;rcases hx with hx | hx<;>rw[hx]),fun _=>⟨by simp[e],fun j h1 h2=>⟨_,List.mem_cons_self ..,news_mem h1 (by have h2:j < n':=h2;omega)⟩⟩,a3⟩
      rcases hj with hj | hj
      ·exact okB_told r3 j hj
      ·exact okB_told r4 j (news_mem hj.1 (by have:=hj.2;have:j < n':=this;omega))
     ·exact hk.elim
   ·exact hk.elim
  simp only[aopsD] at hk
  split at hk
  ·rename_i hg
   exact go hs (.inl hg) hk
  ·rename_i j want hg
   split at hk
   ·rename_i oj hj
    split at hk
    ·rename_i d hdj
     split at hk
     ·rename_i b hsd
      have hgs:gSlot all o d want:=⟨j,oj,hg,hj,hdj⟩
      have hsd2:(s d).map norm=some (norm b):=by rw[←hs d,hsd];rfl
      split at hk
      ·cases want with
       | true=>exact go hs (.inr ⟨d,true,hgs,hsd2⟩) hk
       | false=>exact no hs ⟨d,false,hgs,.inl hsd2⟩ hk
      ·cases want with
       | false=>exact go hs (.inr ⟨d,false,hgs,hsd2⟩) hk
       | true=>exact no hs ⟨d,true,hgs,.inl hsd2⟩ hk
      ·rename_i b
       have hs':∀ v',norm v'= .bool b→∀ t,(put s' (some d) v' t).map norm=(s t).map norm:=fun v' hv' t=>(put_norm hsd hv' t).trans (hs t)
       cases want with
       | true=>
        cases b with
        | true=>exact go (hs' .tt rfl) (.inr ⟨d,true,hgs,hsd2⟩) (hk.1 rfl)
        | false=>exact no (hs' .ff rfl) ⟨d,true,hgs,.inl hsd2⟩ (hk.2 rfl)
       | false=>
        cases b with
        | false=>exact go (hs' .ff rfl) (.inr ⟨d,false,hgs,hsd2⟩) (hk.1 rfl)
        | true=>exact no (hs' .tt rfl) ⟨d,false,hgs,.inl hsd2⟩ (hk.2 rfl)
      ·exact no hs ⟨d,want,hgs,.inr hsd2⟩ hk
      ·exact hk.elim
     ·exact hk.elim
    ·exact hk.elim
   ·exact hk.elim
end
end Go.Proofs.VI
end
section
set_option linter.unusedVariables false
set_option linter.unusedSimpArgs false
namespace Go.Proofs.VI
open Go
section
variable {P:Program} {w w' w0:World} {κ κ' κ0 κ3:Gh} {m m':Nat→Addr} {n n' N:Nat} {s s':Slots} {h h':Heap} {a:Act} {L L':AV→Value→Prop} {tt:TypeId→Option TI} {C:FuncId→List AV→AV→List (Option AV)→Prop}
def ltB (i:Nat):Nat→Bool:=fun x=>Nat.blt x i
theorem ltB_iff {i x:Nat}:ltB i x=true↔x < i:=bltT
theorem ltB_false {i x:Nat} (h:¬ x < i):ltB i x=false:=by
 cases e:ltB i x with
 | false=>rfl
 | true=>exact absurd (ltB_iff.1 e) h
theorem Trace_at {all:List Oper}:∀ {ops:List Oper} {es:List Ent} {i n n2:Nat} {s:Slots} {h:Heap} {log log2:List Log},Trace C tt all i ops es s h n log n2 log2→
  ops.length=es.length∧n≤n2∧∀ k e,es[k]?=some e→ops[k]?=some e.o∧EntOk C tt all (sAt (ltB (i+k)) i es s) (hAt (ltB (i+k)) i es h) e.n e∧n≤e.n∧e.n'≤n2∧
   (∀ k' e',es[k']?=some e'→k < k'→e.n'≤e'.n)∧∀ j,j < e.n→j < n∨∃ k' e',es[k']?=some e'∧k' < k∧e'.n≤j∧j < e'.n'
 | [],[],i,n,n2,s,h,log,log2,ht=>by
  obtain ⟨rfl,_⟩:=ht
  exact ⟨rfl,Nat.le_refl _,fun k e he=>by simp at he⟩
 | [],e::es,i,n,n2,s,h,log,log2,ht=>ht.elim
 | o::ops,[],i,n,n2,s,h,log,log2,ht=>ht.elim
 | o::ops,e::es,i,n,n2,s,h,log,log2,ht=>by
  obtain ⟨ho,he,l,hl,hlog,ht⟩:=ht
  obtain ⟨a1,a2,a3⟩:=Trace_at ht
  have hn:=he.n_
  have hle:=he.le
  refine ⟨by simp[a1],by omega,fun k e' he'=>?_⟩
  cases k with
  | zero=>
   simp at he'
   subst he'
   have hno:∀ k,k < (e::es).length→ltB (i+0) (i+k)=false:=fun k _=>ltB_false (by omega)
   refine ⟨by simp[ho],by rw[hAt_none hno,sAt_none hno,hn];exact he,by omega,a2,fun k' e' he2 hk=>?_,fun j hj=> .inl (by omega)⟩
   cases k' with
   | zero=>omega
   | succ k'=>exact (a3 k' e' (by simpa using he2)).2.2.1
  | succ k=>
   have he'':es[k]?=some e':=by simpa using he'
   obtain ⟨b1,b2,b3,b4,b5,b6⟩:=a3 k e' he''
   have hi:ltB (i+(k+1)) i=true:=ltB_iff.2 (by omega)
   refine ⟨by simpa using b1,?_,by omega,b4,fun k' e2 he2 hk=>?_,fun j hj=>?_⟩
   ·simp only[sAt,hAt,hi,cond_true]
    rw[show i+(k+1)=i+1+k by omega,←ho] at*
    exact b2
   ·cases k' with
    | zero=>omega
    | succ k'=>exact b5 k' e2 (by simpa using he2) (by omega)
   ·rcases b6 j hj with c | ⟨k',e2,c1,c2,c3⟩
    ·by_cases hjn:j < n
     ·exact .inl hjn
     ·exact .inr ⟨0,e,rfl,by omega,by omega,c⟩
    ·exact .inr ⟨k'+1,e2,by simpa using c1,by omega,c3⟩
theorem hAt_succ:∀ {es:List Ent} {i k:Nat} {h:Heap} {e:Ent},es[k]?=some e→hAt (ltB (i+k+1)) i es h=hStep e (hAt (ltB (i+k)) i es h)
 | [],i,k,h,e,he=>by simp at he
 | x::es,i,0,h,e,he=>by
  simp at he
  subst he
  have h1:ltB (i+0+1) i=true:=ltB_iff.2 (by omega)
  have h2:ltB (i+0) i=false:=ltB_false (by omega)
  simp only[hAt,h1,h2,cond_true,cond_false]
  rw[hAt_none fun k _=>ltB_false (by omega),hAt_none fun k _=>ltB_false (by omega)]
 | x::es,i,k+1,h,e,he=>by
  have he':es[k]?=some e:=by simpa using he
  have h1:ltB (i+(k+1)+1) i=true:=ltB_iff.2 (by omega)
  have h2:ltB (i+(k+1)) i=true:=ltB_iff.2 (by omega)
  simp only[hAt,h1,h2,cond_true]
  rw[show i+(k+1)+1=i+1+k+1 by omega,show i+(k+1)=i+1+k by omega]
  exact hAt_succ he'
theorem sAt_succ:∀ {es:List Ent} {i k:Nat} {s:Slots} {e:Ent},es[k]?=some e→sAt (ltB (i+k+1)) i es s=put (sAt (ltB (i+k)) i es s) e.o.dst e.v
 | [],i,k,s,e,he=>by simp at he
 | x::es,i,0,s,e,he=>by
  simp at he
  subst he
  have h1:ltB (i+0+1) i=true:=ltB_iff.2 (by omega)
  have h2:ltB (i+0) i=false:=ltB_false (by omega)
  simp only[sAt,h1,h2,cond_true,cond_false]
  rw[sAt_none fun k _=>ltB_false (by omega),sAt_none fun k _=>ltB_false (by omega)]
 | x::es,i,k+1,s,e,he=>by
  have he':es[k]?=some e:=by simpa using he
  have h1:ltB (i+(k+1)+1) i=true:=ltB_iff.2 (by omega)
  have h2:ltB (i+(k+1)) i=true:=ltB_iff.2 (by omega)
  simp only[sAt,h1,h2,cond_true]
  rw[show i+(k+1)+1=i+1+k+1 by omega,show i+(k+1)=i+1+k by omega]
  exact sAt_succ he'
def pairOk (B:Array Nat) (e d:Log):Prop:=((!e.w&&!d.w)||!meets e.F d.F||(B.getD e.i 0).testBit d.i)=true
theorem logOk_app {B:Array Nat}:∀ {l r:List Log},logOk B (l++r)=true→(∀ x∈l,∀ y∈r,pairOk B x y)∧logOk B r=true
 | [],r,hl=>⟨fun x hx=>by simp at hx,hl⟩
 | x::l,r,hl=>by
  simp only[List.cons_append,logOk,Bool.and_eq_true,List.all_eq_true] at hl
  obtain ⟨h1,h2⟩:=logOk_app hl.2
  refine ⟨fun z hz y hy=>?_,h2⟩
  rcases List.mem_cons.1 hz with e | hz
  ·rw[e];exact hl.1 y (List.mem_append_right _ hy)
  ·exact h1 z hz y hy
theorem Trace_suffix {all:List Oper}:∀ {ops:List Oper} {es:List Ent} {i n n2:Nat} {s:Slots} {h:Heap} {log log2:List Log},Trace C tt all i ops es s h n log n2 log2→∃ l,log2=l++log
 | [],[],i,n,n2,s,h,log,log2,ht=>⟨[],ht.2⟩
 | [],e::es,i,n,n2,s,h,log,log2,ht=>ht.elim
 | o::ops,[],i,n,n2,s,h,log,log2,ht=>ht.elim
 | o::ops,e::es,i,n,n2,s,h,log,log2,ht=>by
  obtain ⟨ho,he,l,hl,hlog,ht⟩:=ht
  obtain ⟨l',e'⟩:=Trace_suffix ht
  exact ⟨l'++l,by rw[e',List.append_assoc]⟩
theorem Trace_log1 {all:List Oper} {B:Array Nat}:∀ {ops:List Oper} {es:List Ent} {i n n2:Nat} {s:Slots} {h:Heap} {log log2:List Log},Trace C tt all i ops es s h n log n2 log2→logOk B log2=true→
  ∀ k e,es[k]?=some e→∃ l,(∀ x∈l,x.i=i+k)∧Logged l (i+k) e∧∀ x∈l,∀ y∈log,pairOk B x y
 | [],[],i,n,n2,s,h,log,log2,ht,hB=>fun k e he=>by simp at he
 | [],e::es,i,n,n2,s,h,log,log2,ht,hB=>ht.elim
 | o::ops,[],i,n,n2,s,h,log,log2,ht,hB=>ht.elim
 | o::ops,e::es,i,n,n2,s,h,log,log2,ht,hB=>by
  obtain ⟨ho,he,l,hl,hlog,ht⟩:=ht
  intro k e' he'
  cases k with
  | zero=>
   simp at he'
   subst he'
   obtain ⟨l',e2⟩:=Trace_suffix ht
   rw[e2] at hB
   exact ⟨l,hl,hlog,(logOk_app (logOk_app hB).2).1⟩
  | succ k=>
   obtain ⟨l2,c1,c2,c3⟩:=Trace_log1 ht hB k e' (by simpa using he')
   rw[show i+1+k=i+(k+1) by omega] at c1 c2
   exact ⟨l2,c1,c2,fun x hx y hy=>c3 x hx y (List.mem_append_right _ hy)⟩
theorem Trace_log2 {all:List Oper} {B:Array Nat}:∀ {ops:List Oper} {es:List Ent} {i n n2:Nat} {s:Slots} {h:Heap} {log log2:List Log},Trace C tt all i ops es s h n log n2 log2→logOk B log2=true→
  ∀ k1 k2 e1 e2,k1 < k2→es[k1]?=some e1→es[k2]?=some e2→∃ l1 l2,(∀ x∈l1,x.i=i+k1)∧(∀ x∈l2,x.i=i+k2)∧Logged l1 (i+k1) e1∧Logged l2 (i+k2) e2∧∀ x∈l2,∀ y∈l1,pairOk B x y
 | [],[],i,n,n2,s,h,log,log2,ht,hB=>fun k1 k2 e1 e2 hk he=>by simp at he
 | [],e::es,i,n,n2,s,h,log,log2,ht,hB=>ht.elim
 | o::ops,[],i,n,n2,s,h,log,log2,ht,hB=>ht.elim
 | o::ops,e::es,i,n,n2,s,h,log,log2,ht,hB=>by
  obtain ⟨ho,he,l,hl,hlog,ht⟩:=ht
  intro k1 k2 e1 e2 hk h1 h2
  cases k2 with
  | zero=>omega
  | succ k2=>
   cases k1 with
   | zero=>
    simp at h1
    subst h1
    obtain ⟨l2,c1,c2,c3⟩:=Trace_log1 ht hB k2 e2 (by simpa using h2)
    rw[show i+1+k2=i+(k2+1) by omega] at c1 c2
    exact ⟨l,l2,hl,c1,hlog,c2,fun x hx y hy=>c3 x hx y (List.mem_append_left _ hy)⟩
   | succ k1=>
    obtain ⟨l1,l2,c⟩:=Trace_log2 ht hB k1 k2 e1 e2 (by omega) (by simpa using h1) (by simpa using h2)
    rw[show i+1+k2=i+(k2+1) by omega,show i+1+k1=i+(k1+1) by omega] at c
    exact ⟨l1,l2,c⟩
theorem wr_logged {l:List Log} {i:Nat} {e:Ent} (hl:Logged l i e) {j:Nat} (hw:wr e j=true):∃ x∈l,x.w=true∧j∈x.F:=by
 simp only[wr,Bool.and_eq_true,Bool.or_eq_true] at hw
 obtain ⟨h1,h2⟩:=hl hw.1
 rcases hw.2 with ⟨h3,h4⟩ | ⟨h3,h4⟩
 ·exact ⟨_,h1,h3,mem_iff.1 h4⟩
 ·obtain ⟨l',h5,h6⟩:=h2 j (bleT.1 h3) (bltT.1 h4)
  exact ⟨_,h5,rfl,h6⟩
theorem meets_of {j:Nat}:∀ {F G:List Nat},j∈F→j∈G→meets F G=true
 | [],G,h,_=>by simp at h
 | x::F,G,h,hG=>by
  simp only[meets,Bool.or_eq_true]
  rcases List.mem_cons.1 h with e | h
  ·left;rw[←e];exact mem_iff.2 hG
  ·right;exact meets_of h hG
theorem pair_bit {B:Array Nat} {x y:Log} (hp:pairOk B x y) (hw:x.w=true∨y.w=true) {j:Nat} (hx:j∈x.F) (hy:j∈y.F):(B.getD x.i 0).testBit y.i=true:=by
 unfold pairOk at hp
 rw[meets_of hx hy] at hp
 rcases hw with hw | hw<;>rw[hw] at hp<;>simpa using hp
theorem Trace_conf {all:List Oper} {B:Array Nat} {ops:List Oper} {es:List Ent} {n n2:Nat} {s:Slots} {h:Heap} {log2:List Log} (ht:Trace C tt all 0 ops es s h n [] n2 log2) (hB:logOk B log2=true) {k1 k2:Nat} {e1 e2:Ent} (hk:k1 < k2) (h1:es[k1]?=some e1) (h2:es[k2]?=some e2) {j:Nat}
  (hc:(wr e1 j=true∧(wr e2 j=true∨(e2.ex=true∧j∈e2.F)))∨(wr e2 j=true∧e1.ex=true∧j∈e1.F)):(B.getD k2 0).testBit k1=true:=by
 obtain ⟨l1,l2,c1,c2,c3,c4,c5⟩:=Trace_log2 ht hB k1 k2 e1 e2 hk h1 h2
 simp only[Nat.zero_add] at c1 c2 c3 c4
 have fin:∀ x∈l2,∀ y∈l1,(x.w=true∨y.w=true)→j∈x.F→j∈y.F→(B.getD k2 0).testBit k1=true:=fun x hx y hy hw hxj hyj=>by
  have:=pair_bit (c5 x hx y hy) hw hxj hyj
  rwa [c2 x hx,c1 y hy] at this
 rcases hc with ⟨hw1,hw2 | ⟨hx2,hj2⟩⟩ | ⟨hw2,hx1,hj1⟩
 ·obtain ⟨y,hy,hyw,hyj⟩:=wr_logged c3 hw1
  obtain ⟨x,hx,hxw,hxj⟩:=wr_logged c4 hw2
  exact fin x hx y hy (.inl hxw) hxj hyj
 ·obtain ⟨y,hy,hyw,hyj⟩:=wr_logged c3 hw1
  exact fin _ (c4 hx2).1 y hy (.inr hyw) hj2 hyj
 ·obtain ⟨x,hx,hxw,hxj⟩:=wr_logged c4 hw2
  exact fin x hx _ (c3 hx1).1 (.inl hxw) hxj hj1
theorem writesOk_at {B:Array Nat} {i d:Nat}:∀ {names:List (List Nat)} {j0:Nat},writesOk B i d j0 names=true→∀ j l,names[j]?=some l→d∈l→ordered B i (j0+j)=true
 | [],j0,h,j,l,hj=>by simp at hj
 | x::names,j0,h,j,l,hj=>fun hd=>by
  simp only[writesOk,Bool.and_eq_true,Bool.or_eq_true,Bool.not_eq_true'] at h
  cases j with
  | zero=>
   simp at hj
   subst hj
   rcases h.1 with h1 | h1
   ·rw[mem_iff.2 hd] at h1;cases h1
   ·exact h1
  | succ j=>
   have:=writesOk_at h.2 j l (by simpa using hj) hd
   rwa [show j0+1+j=j0+(j+1) by omega] at this
theorem slotsOk_at {B:Array Nat} {names:List (List Nat)}:∀ {ops:List Oper} {i0:Nat},slotsOk B names i0 ops=true→∀ i o d,ops[i]?=some o→o.dst=some d→∀ j l,names[j]?=some l→d∈l→ordered B (i0+i) j=true
 | [],i0,h,i,o,d,hi=>by simp at hi
 | x::ops,i0,h,i,o,d,hi=>fun hd j l hj hl=>by
  simp only[slotsOk,Bool.and_eq_true] at h
  cases i with
  | zero=>
   simp at hi
   subst hi
   have h1:=h.1
   rw[hd] at h1
   have:=writesOk_at h1 j l hj hl
   rwa [Nat.zero_add] at this
  | succ i=>
   have:=slotsOk_at h.2 i o d (by simpa using hi) hd j l hj hl
   rwa [show i0+1+i=i0+(i+1) by omega] at this
theorem edgesOk_at:∀ {ops:List Oper} {i0:Nat},edgesOk i0 ops=true→∀ i o,ops[i]?=some o→∀ e∈o.after,Region.binds .any e=true→e.on < i0+i
 | [],i0,h,i,o,hi=>by simp at hi
 | x::ops,i0,h,i,o,hi=>fun e he hb=>by
  simp only[edgesOk,Bool.and_eq_true,List.all_eq_true,Bool.or_eq_true,Bool.not_eq_true'] at h
  cases i with
  | zero=>
   simp at hi
   subst hi
   rcases h.1 e (by simpa using he) with h1 | h1
   ·rw[hb] at h1;cases h1
   ·have:=bltT.1 h1;omega
  | succ i=>
   have:=edgesOk_at h.2 i o (by simpa using hi) e he hb
   omega
theorem tmpsOf_mem {t:Nat}:∀ {l:List Operand},usesT t l=true→t∈tmpsOf l
 | [],h=>by simp[usesT] at h
 | .tmp u::l,h=>by
  simp only[usesT] at h
  simp only[tmpsOf,List.mem_cons]
  cases hb:Nat.beq t u with
  | true=>exact .inl (Nat.eq_of_beq_eq_true hb)
  | false=>rw[hb] at h;exact .inr (tmpsOf_mem h)
 | .const _::l,h=>tmpsOf_mem (l:=l) h
 | .global _::l,h=>tmpsOf_mem (l:=l) h
 | .func _::l,h=>tmpsOf_mem (l:=l) h
theorem names_base {ops:Array Oper} {o:Oper} {t:Nat} (h:t∈(match o.dst with | some d=>d::tmpsOf o.op.operands.toList | none=>tmpsOf o.op.operands.toList)):t∈namesO ops o:=by
 cases hd:o.dst<;>cases hg:o.guard<;>rw[hd] at h<;>simp only[namesO,hd,hg]<;>first
  | exact h
  | (split
     · split
       · exact List.mem_cons_of_mem _ h
       · exact h
     · exact h)
theorem names_use {ops:Array Oper} {o:Oper} {t:Nat} (h:usesT t o.op.operands.toList=true):t∈namesO ops o:=by
 refine names_base ?_
 have:=tmpsOf_mem h
 split
 ·exact List.mem_cons_of_mem _ this
 ·exact this
theorem names_dst {ops:Array Oper} {o:Oper} {t:Nat} (h:o.dst=some t):t∈namesO ops o:=by
 refine names_base ?_
 rw[h]
 exact List.mem_cons_self ..
theorem names_guard {ops:Array Oper} {o:Oper} {d:Nat} {want:Bool} (h:gSlot ops.toList o d want):d∈namesO ops o:=by
 obtain ⟨j,oj,hg,hj,hd⟩:=h
 have:ops[j]?=some oj:=by simpa using hj
 unfold namesO
 rw[hg]
 simp only[this,hd]
 exact List.mem_cons_self ..
theorem before_bit (ops:Array Oper) {i k:Nat} (h:((Region.before ops).getD i 0).testBit k=true):∃ o,ops[i]?=some o∧∃ e∈o.after,Region.binds .any e=true∧(k=e.on∨((Region.before ops).getD e.on 0).testBit k=true):=by
 let f:Array Nat→Oper→Array Nat:=fun acc o=>acc.push (o.after.foldl (fun s e=>if Region.binds .any e then s||| 2 ^ e.on||| acc.getD e.on 0 else s) 0)
 have hbit:∀ (acc:Array Nat) (l:List Edge) (s0:Nat) (k:Nat),(l.foldl (fun s e=>if Region.binds .any e then s||| 2 ^ e.on||| acc.getD e.on 0 else s) s0).testBit k=true→s0.testBit k=true∨∃ e∈l,Region.binds .any e=true∧(k=e.on∨(acc.getD e.on 0).testBit k=true):=by
  intro acc l
  induction l with
  | nil=>intro s0 k h;exact .inl h
  | cons e l ih=>
   intro s0 k h
   rw[List.foldl_cons] at h
   rcases ih _ _ h with h | ⟨e',h1,h2,h3⟩
   ·cases hb:Region.binds .any e with
    | false=>rw[hb] at h;exact .inl (by simpa using h)
    | true=>
     rw[hb] at h
     simp only[if_true,Nat.testBit_or,Bool.or_eq_true] at h
     rcases h with (h | h) | h
     ·exact .inl h
     ·refine .inr ⟨e,List.mem_cons_self ..,hb,.inl ?_⟩
      rw[Nat.testBit_two_pow] at h
      simpa using (of_decide_eq_true h).symm
     ·exact .inr ⟨e,List.mem_cons_self ..,hb,.inr h⟩
   ·exact .inr ⟨e',List.mem_cons_of_mem _ h1,h2,h3⟩
 have key:∀ (r l:List Oper) (acc:Array Nat),(acc.size=l.length∧∀ i k,(acc.getD i 0).testBit k=true→∃ o,l[i]?=some o∧∃ e∈o.after,Region.binds .any e=true∧(k=e.on∨(acc.getD e.on 0).testBit k=true))→
   ∀ i k,((r.foldl f acc).getD i 0).testBit k=true→∃ o,(l++r)[i]?=some o∧∃ e∈o.after,Region.binds .any e=true∧(k=e.on∨((r.foldl f acc).getD e.on 0).testBit k=true):=by
  intro r
  induction r with
  | nil=>intro l acc ⟨_,h⟩ i k hk;rw[List.append_nil];exact h i k hk
  | cons o r ih0=>
   intro l acc ⟨hs,ih⟩
   rw[List.foldl_cons,show l++o::r=(l++[o])++r by simp]
   refine ih0 (l++[o]) (f acc o) ?_
   show (acc.push (o.after.foldl (fun s e=>if Region.binds .any e then s||| 2 ^ e.on||| acc.getD e.on 0 else s) 0)).size=_∧∀ i k,((acc.push (o.after.foldl (fun s e=>if Region.binds .any e then s||| 2 ^ e.on||| acc.getD e.on 0 else s) 0)).getD i 0).testBit k=true→∃ o',(l++[o])[i]?=some o'∧∃ e∈o'.after,Region.binds .any e=true∧(k=e.on∨((acc.push (o.after.foldl (fun s e=>if Region.binds .any e then s||| 2 ^ e.on||| acc.getD e.on 0 else s) 0)).getD e.on 0).testBit k=true)
   have old:∀ i,i < acc.size→∀ x:Nat,(acc.push x).getD i 0=acc.getD i 0:=fun i hi x=>by
    simp[Array.getD_eq_getD_getElem?,Array.getElem?_push,Nat.ne_of_lt hi]
   have grow:∀ (i k x:Nat),(acc.getD i 0).testBit k=true→((acc.push x).getD i 0).testBit k=true:=fun i k x h=>by
    by_cases hi:i < acc.size
    ·rw[old i hi];exact h
    ·have:acc.getD i 0=0:=by simp[Array.getD,hi]
     rw[this] at h;simp at h
   refine ⟨by simp[hs],fun i k h=>?_⟩
   by_cases hi:i < acc.size
   ·rw[old i hi] at h
    obtain ⟨o',h1,e,h2,h3,h4⟩:=ih i k h
    exact ⟨o',by rw[List.getElem?_append_left (by omega)];exact h1,e,h2,h3,h4.imp id (grow _ _ _)⟩
   ·by_cases hi2:i=acc.size
    ·subst hi2
     have hnew:∀ x:Nat,(acc.push x).getD acc.size 0=x:=fun x=>by simp[Array.getD_eq_getD_getElem?]
     rw[hnew,←Array.foldl_toList] at h
     rcases hbit acc o.after.toList 0 k h with h | ⟨e,h2,h3,h4⟩
     ·simp at h
     ·exact ⟨o,by rw[hs];simp,e,by simpa using h2,h3,h4.imp id (grow _ _ _)⟩
    ·have:∀ x:Nat,(acc.push x).getD i 0=0:=fun x=>by
      rw[Array.getD_eq_getD_getElem?,Array.getElem?_eq_none (by simp;omega)];rfl
     rw[this] at h;simp at h
 have e2:Region.before ops=ops.toList.foldl f #[]:=by
  unfold Region.before
  rw[←Array.foldl_toList]
 rw[e2] at h⊢
 obtain ⟨o,h1,h2⟩:=key ops.toList [] #[] ⟨rfl,fun i k h=>by simp at h⟩ i k h
 exact ⟨o,by simpa using h1,h2⟩
end
end Go.Proofs.VI
end
section
set_option linter.unusedVariables false
set_option linter.unusedSimpArgs false
namespace Go.Proofs.VI
open Go
section
variable {P:Program} {w w' w0:World} {κ κ' κ0 κ3:Gh} {m m':Nat→Addr} {n n' N:Nat} {s s':Slots} {h h':Heap} {a:Act} {L L':AV→Value→Prop} {tt:TypeId→Option TI} {C:FuncId→List AV→AV→List (Option AV)→Prop}
def cnt:List Bool→Nat
 | []=>0
 | true::r=>cnt r
 | false::r=>cnt r+1
theorem cnt_set:∀ {l:List Bool} {i:Nat},l[i]?=some false→cnt (l.set i true)+1=cnt l
 | [],i,h=>by simp at h
 | true::l,0,h=>by simp at h
 | false::l,0,h=>rfl
 | true::l,i+1,h=>cnt_set (l:=l) (i:=i) (by simpa using h)
 | false::l,i+1,h=>by
  have:=cnt_set (l:=l) (i:=i) (by simpa using h)
  simp only[List.set_cons_succ,cnt]
  omega
theorem cnt_zero:∀ {l:List Bool},cnt l=0→∀ (i:Nat) (b:Bool),l[i]?=some b→b=true
 | [],_,i,b,h=>by simp at h
 | true::l,hc,0,b,h=>by simp at h;exact h.symm▸rfl
 | true::l,hc,i+1,b,h=>cnt_zero (l:=l) hc i b (by simpa using h)
 | false::l,hc,i,b,h=>by simp[cnt] at hc
theorem RelN.mono {A B:Nat→Prop} (R:RelN A w κ m n s h a) (hAB:∀ i,A i→B i) (hB:∀ i,B i→i < n):RelN B w κ m n s h a:=
 ⟨fun t v ht=>⟨(R.slot t v ht).1,relV_move (fun b hb=>⟨hb,rfl⟩) (fun _ _ h=>⟨h.1,nameOk_mono hAB h.2⟩) v none none _ .none_ (R.slot t v ht).2⟩,
  fun id b hb => ⟨hAB _ (R.blk id b hb).1, relBlk_move (fun b hb => ⟨hb, rfl⟩) (fun _ _ h => ⟨h.1, nameOk_mono hAB h.2⟩) ⟨_, rfl, fun q b hb => ⟨hb, rfl⟩⟩ rfl (R.blk id b hb).2⟩, R.low, fun b id p hb => hAB _ (R.fresh b id p hb), hB⟩
def AD (n0:Nat) (es:List Ent) (D:Nat→Bool) (id:Nat):Prop:=id < n0∨∃ k e,es[k]?=some e∧D k=true∧e.n≤id∧id < e.n'
def listD (listed:Array Bool):Nat→Bool:=fun k=>listed.getD k false
theorem listD_set {listed:Array Bool} {i:Nat} (hi:i < listed.size) (k:Nat):listD (listed.setIfInBounds i true) k=(if k=i then true else listD listed k):=by
 unfold listD
 by_cases e:k=i
 ·subst e
  rw[if_pos rfl]
  simp[Array.getD_eq_getD_getElem?,hi]
 ·rw[if_neg e]
  simp[Array.getD_eq_getD_getElem?,Array.getElem?_setIfInBounds_ne (Ne.symm e)]
theorem restr_eq {F:List Nat} {h1 h2:Heap} (hh:∀ j∈F,h1 j=h2 j):restr h1 F=restr h2 F:=by
 funext j
 by_cases hj:j∈F
 ·rw[restr_in hj,restr_in hj,hh j hj]
 ·rw[restr_out hj,restr_out hj]
theorem drawn_any (T:TOk P tt) (HC:∀ f args res outs,C f args res outs→Contract P f args res outs) {opsA:Array Oper} {es:List Ent} {s0:Slots} {h0:Heap} {n0 n2:Nat} {M:Fm} {log2:List Log} (TR:Trace C tt opsA.toList 0 opsA.toList es s0 h0 n0 [] n2 log2) (hreg:regOk opsA log2=true)
  (hdst:∀ o∈opsA.toList,∀ d,o.dst=some d→M.ok d) {Q:Exit→Act→World→Prop}
  (hQ:∀ a w κ m,St M w κ m n2 (sAt (fun _=>true) 0 es s0) (hAt (fun _=>true) 0 es h0) a→Stp κ0 w0 κ w→Q .normal a w):
  ∀ (fuel:Nat) (listed:Array Bool) (κ:Gh) (m:Nat→Addr) (a:Act) (w:World),listed.size=opsA.size→cnt listed.toList≤fuel→
   (∀ i,listD listed i=true→∀ k,((Region.before opsA).getD i 0).testBit k=true→listD listed k=true)→
   RelN (AD n0 es (listD listed)) w κ m n2 (sAt (listD listed) 0 es s0) (hAt (listD listed) 0 es h0) a→Fr M a→Stp κ0 w0 κ w→wpAny P .any opsA Q fuel listed a w:=by
 simp only[regOk,Bool.and_eq_true] at hreg
 obtain ⟨rg1,rg2,rg3⟩:=hreg
 obtain ⟨tl,tn,tat⟩:=Trace_at TR
 have eget:∀ (i:Nat) (o:Oper),opsA[i]?=some o→∃ e:Ent,es[i]?=some e∧e.o=o:=fun i o hi=>by
  have hi':opsA.toList[i]?=some o:=by simpa using hi
  have hlt:i < es.length:=by rw[←tl];exact (List.getElem?_eq_some_iff.1 hi').1
  refine ⟨es[i],List.getElem?_eq_getElem hlt,?_⟩
  have:=(tat i es[i] (List.getElem?_eq_getElem hlt)).1
  rw[hi'] at this
  injection this with this
  exact this.symm
 have oget:∀ (i:Nat) (e:Ent),es[i]?=some e→opsA[i]?=some e.o:=fun i e hi=>by simpa using (tat i e hi).1
 have hslot:∀ {i k:Nat} {e e':Ent} {t:Nat},es[i]?=some e→es[k]?=some e'→e'.o.dst=some t→t∈namesO opsA e.o→ordered (Region.before opsA) k i=true:=fun {i k e e' t} hi hk hd ht=>by
  have:=slotsOk_at rg2 k e'.o t (by simpa using oget k e' hk) hd i (namesO opsA e.o) (by rw[List.getElem?_map];have:=oget i e hi;simp only[Array.getElem?_toList,this];rfl) ht
  rwa [Nat.zero_add] at this
 have ord_lt:∀ {k i:Nat},ordered (Region.before opsA) k i=true→k < i→((Region.before opsA).getD i 0).testBit k=true:=fun {k i} ho hlt=>by
  unfold ordered at ho
  rw[bltT.2 hlt] at ho
  exact ho
 have ord_gt:∀ {k i:Nat},ordered (Region.before opsA) k i=true→i < k→((Region.before opsA).getD k 0).testBit i=true:=fun {k i} ho hlt=>by
  unfold ordered at ho
  have:Nat.blt k i=false:=ltB_false (i:=i) (x:=k) (by omega)
  rw[this,bltT.2 hlt] at ho
  exact ho
 have allD:∀ (listed:Array Bool) (κ:Gh) (m:Nat→Addr) (a:Act) (w:World),(∀ k,k < opsA.size→listD listed k=true)→RelN (AD n0 es (listD listed)) w κ m n2 (sAt (listD listed) 0 es s0) (hAt (listD listed) 0 es h0) a→Fr M a→Stp κ0 w0 κ w→Q .normal a w:=fun listed κ m a w hall R hfr ST=>by
  have hes:∀ (k:Nat) (e:Ent),es[k]?=some e→k < opsA.size:=fun k e he=>by
   have:=(List.getElem?_eq_some_iff.1 he).1
   rw[←tl] at this
   simpa using this
  have e1:sAt (listD listed) 0 es s0=sAt (fun _=>true) 0 es s0:=by
   funext t
   exact sAt_agree rfl fun k e he _=>by rw[Nat.zero_add];exact hall k (hes k e he)
  have e2:hAt (listD listed) 0 es h0=hAt (fun _=>true) 0 es h0:=by
   funext t
   exact hAt_agree rfl fun k e he _=>by rw[Nat.zero_add];exact hall k (hes k e he)
  rw[e1,e2] at R
  exact hQ a w κ m ⟨R.rel,hfr⟩ ST
 have ready_nil:∀ (listed:Array Bool),listed.size=opsA.size→Region.ready .any opsA listed=[]→∀ k,k < opsA.size→listD listed k=true:=fun listed hsz hr k=>by
  induction k using Nat.strongRecOn with
  | _ k ih=>
   intro hk
   cases hd:listD listed k with
   | true=>rfl
   | false=>
    exfalso
    have:k∈Region.ready .any opsA listed:=mem_ready.2 ⟨by
     have hd:listed.getD k false=false:=hd
     simp only[Array.getD,hsz,hk,dif_pos] at hd⊢
     exact hd,opsA[k],Array.getElem?_eq_getElem hk,fun e he hb=>by
      have:=edgesOk_at rg1 k opsA[k] (by simp[hk]) e he hb
      exact ih e.on (by omega) (by omega)⟩
    rw[hr] at this
    simp at this
 intro fuel
 induction fuel with
 | zero=>
  intro listed κ m a w hsize hcnt hcl R hfr ST
  have hall:∀ k,k < opsA.size→listD listed k=true:=fun k hk=>by
   have:listed.toList[k]?=some (listed[k]'(by omega)):=by simp[hsize,hk]
   have:=cnt_zero (Nat.le_zero.1 hcnt) k _ this
   simp[listD,Array.getD,hsize,hk,this]
  refine ⟨?_,allD listed κ m a w hall R hfr ST⟩
  cases hr:Region.ready .any opsA listed with
  | nil=>rfl
  | cons i r=>
   exfalso
   have hi:i∈Region.ready .any opsA listed:=by rw[hr];exact List.mem_cons_self ..
   obtain ⟨h1,o,h2,_⟩:=mem_ready.1 hi
   have hlt:=(Array.getElem?_eq_some_iff.1 h2).1
   have:=hall i hlt
   simp only[listD,Array.getD,hsize,hlt,dif_pos] at this h1
   rw[this] at h1;cases h1
 | succ fuel ihf=>
  intro listed κ m a w hsize hcnt hcl R hfr ST
  refine ⟨fun hr=>allD listed κ m a w (ready_nil listed hsize hr) R hfr ST,fun i hi=>?_⟩
  obtain ⟨hi1,o,hio,hedge⟩:=mem_ready.1 hi
  have hlt:=(Array.getElem?_eq_some_iff.1 hio).1
  obtain ⟨e,he,heo⟩:=eget i o hio
  subst heo
  obtain ⟨_,EO,en0,en2,eord,etile⟩:=tat i e he
  simp only[Nat.zero_add] at EO
  generalize hD:listD listed=D at R hcl
  have hDi:D i=false:=by
   rw[←hD]
   simp only[listD,Array.getD,hsize,hlt,dif_pos] at hi1⊢
   exact hi1
  have hBD:∀ k,((Region.before opsA).getD i 0).testBit k=true→D k=true:=fun k hk=>by
   obtain ⟨o',h1,e',h2,h3,h4⟩:=before_bit opsA hk
   rw[hio] at h1
   injection h1 with h1
   subst h1
   have hon:D e'.on=true:=by rw[←hD];exact hedge e' h2 h3
   rcases h4 with h4 | h4
   ·rw[h4];exact hon
   ·exact hcl _ hon _ h4
  have hlater:∀ k,((Region.before opsA).getD k 0).testBit i=true→D k=false:=fun k hk=>by
   cases hd:D k with
   | false=>rfl
   | true=>rw[hcl k hd i hk] at hDi;cases hDi
  let D':Nat→Bool:=listD (listed.setIfInBounds i true)
  have hD':∀ k,D' k=if k=i then true else D k:=fun k=>by rw[←hD];exact listD_set (by omega) k
  have hcl':∀ i',D' i'=true→∀ k,((Region.before opsA).getD i' 0).testBit k=true→D' k=true:=fun i' hi' k hk=>by
   rw[hD'] at hi'⊢
   by_cases ek:k=i
   ·rw[if_pos ek]
   ·rw[if_neg ek]
    by_cases ei:i'=i
    ·rw[ei] at hk;exact hBD k hk
    ·rw[if_neg ei] at hi';exact hcl i' hi' k hk
  have hcnt':cnt (listed.setIfInBounds i true).toList≤fuel:=by
   have:listed.toList[i]?=some false:=by
    have h1:i < listed.size:=by omega
    have:=hi1
    rw[Array.getD_eq_getD_getElem?] at this
    simp only[Array.getElem?_toList]
    simp only[h1,Array.getElem?_eq_getElem,Option.getD_some] at this⊢
    rw[this]
   have:=cnt_set this
   rw[Array.toList_setIfInBounds]
   omega
  have hsl:∀ t,t∈namesO opsA e.o→sAt D 0 es s0 t=sAt (ltB i) 0 es s0 t:=fun t ht=>sAt_agree rfl fun k e' hk hd=>by
   rw[Nat.zero_add]
   have ho:=hslot he hk hd ht
   by_cases h1:k < i
   ·rw[hBD k (ord_lt ho h1)];exact (ltB_iff.2 h1).symm
   ·rw[ltB_false h1]
    by_cases h2:k=i
    ·rw[h2];exact hDi
    ·exact hlater k (ord_gt ho (by omega))
  have hsl':∀ t,sAt D' 0 es s0 t=put (sAt D 0 es s0) e.o.dst e.v t:=fun t=>by
   rw[put_at]
   by_cases hd:e.o.dst=some t
   ·rw[if_pos hd]
    have h1:sAt D' 0 es s0 t=sAt (ltB (0+i+1)) 0 es s0 t:=sAt_agree rfl fun k e' hk hdk=>by
     rw[Nat.zero_add,hD']
     by_cases h2:k=i
     ·rw[if_pos h2,h2];exact (ltB_iff.2 (by omega)).symm
     ·rw[if_neg h2]
      have ho:=hslot he hk hdk (names_dst hd)
      by_cases h1:k < i
      ·rw[hBD k (ord_lt ho h1)];exact (ltB_iff.2 (by omega)).symm
      ·rw[ltB_false (by omega)];exact hlater k (ord_gt ho (by omega))
    rw[h1,sAt_succ he,put_at,if_pos hd]
   ·rw[if_neg hd]
    exact sAt_agree rfl fun k e' hk hdk=>by
     rw[Nat.zero_add,hD']
     by_cases h2:k=i
     ·subst h2;rw[he] at hk;injection hk with hk;subst hk;exact absurd hdk hd
     ·rw[if_neg h2]
  have hd:∀ t,e.o.dst=some t→M.ok t:=hdst e.o (List.mem_of_getElem? (by simpa using hio))
  have guardU:∀ {d:Nat} {want:Bool} {x:AV},gSlot opsA.toList e.o d want→(sAt (ltB i) 0 es s0 d).map norm=some x→d < a.tmps.size∧relV w κ (fun v u=>liveV w κ m n2 (hAt D 0 es h0) v u∧nameOk (AD n0 es D) v) none x (a.tmps.getD d undef):=fun {d want x} hg hx=>by
   rw[←hsl d (names_guard hg)] at hx
   cases hs:sAt D 0 es s0 d with
   | none=>rw[hs] at hx;cases hx
   | some y=>
    rw[hs] at hx
    simp only[Option.map_some,Option.some.injEq] at hx
    obtain ⟨r1,r2⟩:=R.slot d y hs
    refine ⟨r1,?_⟩
    rw[←hx]
    cases y<;>exact r2
  unfold wpOp
  rw[hio]
  cases hex:e.ex with
  | false=>
   obtain ⟨⟨d,want,hg,hval⟩,hv,hn'⟩:=EO.no hex
   have hno:Region.wanted e.o (yielded opsA a.tmps)=false:=by
    obtain ⟨j,oj,g1,g2,g3⟩:=hg
    rcases hval with hval | hval
    ·obtain ⟨r1,r2⟩:=guardU ⟨j,oj,g1,g2,g3⟩ hval
     have r2:a.tmps.getD d undef= .bool (!want):=r2
     exact wanted_no g1 g2 g3 r1 (by rw[r2];cases want<;>simp)
    ·obtain ⟨r1,r2⟩:=guardU ⟨j,oj,g1,g2,g3⟩ hval
     obtain ⟨vs,hu,_⟩:=r2
     exact wanted_no g1 g2 g3 r1 (by rw[hu];simp)
   simp only[hno,Bool.false_eq_true,if_false]
   have hwr:∀ j,wr e j=false:=fun j=>by simp[wr,hex]
   have hh:hAt D' 0 es h0=hAt D 0 es h0:=by
    funext j
    exact hAt_agree rfl fun k e' hk hw=>by
     rw[Nat.zero_add,hD']
     by_cases h2:k=i
     ·subst h2;rw[he] at hk;injection hk with hk;subst hk;rw[hwr] at hw;cases hw
     ·rw[if_neg h2]
   refine ihf _ κ m _ w (by simp[hsize]) hcnt' hcl' ?_ (hfr.put hd) ST
   show RelN (AD n0 es D') w κ m n2 (sAt D' 0 es s0) (hAt D' 0 es h0) _
   rw[show sAt D' 0 es s0=put (sAt D 0 es s0) e.o.dst e.v from funext hsl',hh]
   refine RelN.put (R.mono (fun id hid=>?_) (fun id hid=>?_)) (fun t ht=>by rw[hfr.size];exact (hd t ht).1) (by rw[hv];exact tup_rel)
   ·rcases hid with hid | ⟨k,e',h1,h2,h3⟩
    ·exact .inl hid
    ·refine .inr ⟨k,e',h1,?_,h3⟩
     rw[hD']
     split
     ·rfl
     ·exact h2
   ·rcases hid with hid | ⟨k,e',h1,h2,h3⟩
    ·omega
    ·have:=(tat k e' h1).2.2.2.1
     omega
  | true=>
   obtain ⟨hg,y1,y⟩:=EO.yes hex
   have hyes:Region.wanted e.o (yielded opsA a.tmps)=true:=by
    rcases hg with hg | ⟨d,want,hg,hval⟩
    ·simp[Region.wanted,hg]
    ·obtain ⟨j,oj,g1,g2,g3⟩:=hg
     obtain ⟨r1,r2⟩:=guardU ⟨j,oj,g1,g2,g3⟩ hval
     exact wanted_yes g1 g2 g3 r1 r2
   simp only[hyes,if_true]
   have hconf:∀ {k:Nat} {e':Ent} {j:Nat},es[k]?=some e'→k≠i→wr e' j=true→(wr e j=true∨j∈e.F)→(if k < i then ((Region.before opsA).getD i 0).testBit k=true else ((Region.before opsA).getD k 0).testBit i=true):=fun {k e' j} hk hne hw hj=>by
    by_cases h1:k < i
    ·rw[if_pos h1]
     exact Trace_conf TR rg3 h1 hk he (.inl ⟨hw,hj.imp id fun hj=>⟨hex,hj⟩⟩)
    ·rw[if_neg h1]
     rcases hj with hj | hj
     ·exact Trace_conf TR rg3 (show i < k by omega) he hk (.inl ⟨hj,.inl hw⟩)
     ·exact Trace_conf TR rg3 (show i < k by omega) he hk (.inr ⟨hw,hex,hj⟩)
   have hDk:∀ {k:Nat} {e':Ent} {j:Nat},es[k]?=some e'→k≠i→wr e' j=true→(wr e j=true∨j∈e.F)→D k=ltB i k:=fun {k e' j} hk hne hw hj=>by
    have:=hconf hk hne hw hj
    by_cases h1:k < i
    ·rw[if_pos h1] at this
     rw[hBD k this];exact (ltB_iff.2 h1).symm
    ·rw[if_neg h1] at this
     rw[ltB_false h1];exact hlater k this
   have hheap:∀ j∈e.F,hAt D 0 es h0 j=hAt (ltB i) 0 es h0 j:=fun j hj=>hAt_agree rfl fun k e' hk hw=>by
    rw[Nat.zero_add]
    by_cases h2:k=i
    ·rw[h2,hDi];exact (ltB_false (by omega)).symm
    ·exact hDk hk h2 hw (.inr hj)
   have hFA:∀ j∈e.F,AD n0 es D j:=fun j hj=>by
    rcases etile j (y1 j hj) with c | ⟨k,e',h1,h2,h3,h4⟩
    ·exact .inl c
    ·refine .inr ⟨k,e',h1,?_,h3,h4⟩
     have hw:wr e' j=true:=by
      have hx:e'.ex=true:=by
       cases hx:e'.ex with
       | true=>rfl
       | false=>
        have:=((tat k e' h1).2.1.no hx).2.2
        omega
      simp[wr,hx,bleT.2 h3,bltT.2 h4]
     rw[hDk h1 (by omega) hw (.inr hj)]
     exact ltB_iff.2 h2
   have fr:e.o.wp P a w (fun a' w'=>∃ κ' m' u,a'=a.put e.o.dst u∧
     relV w' κ' (fun v u=>liveV w' κ' m' n2 (fun j=>bif (e.w&&mem j e.F)||(Nat.ble e.n j&&Nat.blt j e.n') then e.h' j else hAt D 0 es h0 j) v u∧nameOk (fun i=>AD n0 es D i∨(e.n≤i∧i < e.n')) v) none e.v u∧
     RelN (fun i=>AD n0 es D i∨(e.n≤i∧i < e.n')) w' κ' m' n2 (sAt D 0 es s0) (fun j=>bif (e.w&&mem j e.F)||(Nat.ble e.n j&&Nat.blt j e.n') then e.h' j else hAt D 0 es h0 j) a∧Stp κ w κ' w'∧
     ∀ v u,(liveV w κ m n2 (hAt D 0 es h0) v u∧nameOk (AD n0 es D) v)→liveV w' κ' m' n2 (fun j=>bif (e.w&&mem j e.F)||(Nat.ble e.n j&&Nat.blt j e.n') then e.h' j else hAt D 0 es h0 j) v u∧nameOk (fun i=>AD n0 es D i∨(e.n≤i∧i < e.n')) v) (fun _ _ _=>False):=by
    rcases y with ⟨y2,y3,y4,y5,y6⟩ | ⟨y2,y3,y4⟩ | ⟨j9,b9,y2,y3,y4,y5,y6,y7⟩
    ·rw[←restr_eq hheap] at y2
     refine frame_op (N:=n2) T HC R y2 (fun t ht=>by rw[EO.s_ t,hsl t (names_use ht)]) y1 y3 (fun j hj b hb=>by rw[hheap j hj] at hb;exact y4 j hj b hb) (fun id hid=>?_) hFA en2 y5 y6
     intro hnew
     rcases hid with hid | ⟨k,e',h1,h2,h3⟩
     ·omega
     ·have hki:k≠i:=fun e2=>by rw[e2,hDi] at h2;cases h2
      by_cases h4:k < i
      ·have:=(tat k e' h1).2.2.2.2.1 i e he h4;omega
      ·have:=eord k e' h1 (by omega);omega
    ·exact frame_lite (N:=n2) T R (lite_agree y2 hheap) y3 (y4.trans EO.n_.symm) (fun t ht=>by rw[EO.s_ t,hsl t (names_use ht)])
    ·exact frame_liteS (N:=n2) T R (liteS_agree y2 (hheap j9 (by rw[y3];exact List.mem_singleton.2 rfl))) y5 y3 y6 (y7.trans EO.n_.symm) (by rw[y4,upd_eq]) (fun t ht=>by rw[EO.s_ t,hsl t (names_use ht)])
   refine .inl (Oper.wp_mono2 (fun a' w' hp=>?_) (fun _ _ _ h=>h) fr)
   ·obtain ⟨κ',m',u,rfl,hv,R',ST',hM⟩:=hp
    refine ihf _ κ' m' _ w' (by simp[hsize]) hcnt' hcl' ?_ (hfr.put hd) (ST.trans ST')
    show RelN (AD n0 es D') w' κ' m' n2 (sAt D' 0 es s0) (hAt D' 0 es h0) _
    have hh:hAt D' 0 es h0=fun j=>bif (e.w&&mem j e.F)||(Nat.ble e.n j&&Nat.blt j e.n') then e.h' j else hAt D 0 es h0 j:=by
     funext j
     have hwr:wr e j=((e.w&&mem j e.F)||(Nat.ble e.n j&&Nat.blt j e.n')):=by simp[wr,hex]
     rw[←hwr]
     cases hw:wr e j with
     | true=>
      rw[cond_true]
      have h1:hAt D' 0 es h0 j=hAt (ltB (0+i+1)) 0 es h0 j:=hAt_agree rfl fun k e' hk hwk=>by
       rw[Nat.zero_add,hD']
       by_cases h2:k=i
       ·rw[if_pos h2,h2];exact (ltB_iff.2 (by omega)).symm
       ·rw[if_neg h2,hDk hk h2 hwk (.inl hw)]
        by_cases h1:k < i
        ·rw[ltB_iff.2 h1];exact (ltB_iff.2 (by omega)).symm
        ·rw[ltB_false h1];exact (ltB_false (by omega)).symm
      rw[h1,hAt_succ he]
      simp[hStep,hw]
     | false=>
      rw[cond_false]
      exact hAt_agree rfl fun k e' hk hwk=>by
       rw[Nat.zero_add,hD']
       by_cases h2:k=i
       ·subst h2;rw[he] at hk;injection hk with hk;subst hk;rw[hw] at hwk;cases hwk
       ·rw[if_neg h2]
    rw[show sAt D' 0 es s0=put (sAt D 0 es s0) e.o.dst e.v from funext hsl',hh]
    refine (RelN.put R' (fun t ht=>by rw[hfr.size];exact (hd t ht).1) hv).mono (fun id hid=>?_) (fun id hid=>?_)
    ·rcases hid with (hid | ⟨k,e',h1,h2,h3⟩) | hid
     ·exact .inl hid
     ·refine .inr ⟨k,e',h1,?_,h3⟩
      rw[hD']
      split
      ·rfl
      ·exact h2
     ·exact .inr ⟨i,e,he,by rw[hD',if_pos rfl],hid⟩
    ·rcases hid with hid | ⟨k,e',h1,h2,h3⟩
     ·omega
     ·have:=(tat k e' h1).2.2.2.1
      omega
theorem draw_region (T:TOk P tt) (HC:∀ f args res outs,C f args res outs→Contract P f args res outs) (hm:P.follows .mixedOrders=true) {opsA:Array Oper} {id:Nat} {M:Fm} {K:Nat→Slots→Heap→List Log→Prop}
  (hk:aopsD C tt opsA.toList n 0 opsA.toList s h [] K) (hK:∀ n s h log,K n s h log→regOk opsA log=true) (S:St M w κ m n s h a) (ST:Stp κ0 w0 κ w) (hdst:∀ o∈opsA.toList,∀ d,o.dst=some d→M.ok d) {Q:Exit→Act→World→Prop}
  (hQ:∀ a w,Up (fun n s h=>∃ log,K n s h log) M κ0 w0 a w→Q .normal a w):(Code.region id opsA true).wp P Q a w:=by
 obtain ⟨es,n2,s2,log2,a1,a2,a3⟩:=aopsD_trace (s:=s) (fun _=>rfl) hk
 refine wp_region_any hm ?_
 have R0:Rel {w with drawn:=w.drawn+1} κ m n s h a:=S.rel.drew rfl
 have hno:∀ k,listD (Array.replicate opsA.size false) k=false:=fun k=>by
  unfold listD
  by_cases hk:k < opsA.size<;>simp[Array.getD,hk]
 have e1:sAt (listD (Array.replicate opsA.size false)) 0 es s=s:=sAt_none fun k _=>hno _
 have e2:hAt (listD (Array.replicate opsA.size false)) 0 es h=h:=hAt_none fun k _=>hno _
 have hcnt:∀ k,cnt (List.replicate k false)=k:=fun k=>by
  induction k with
  | zero=>rfl
  | succ k ih=>simp[List.replicate_succ,cnt,ih]
 have hle:=(Trace_at a3).2.1
 refine drawn_any (κ0:=κ0) (w0:=w0) T HC a3 (hK _ _ _ _ a1) hdst (fun a' w' κ' m' S' ST'=>hQ a' w' ⟨n2,s2,_,κ',m',⟨log2,a1⟩,⟨S'.rel.retell a2,S'.fr⟩,ST'⟩) opsA.size _ κ m a _ (by simp) (by simp[hcnt]) (fun i hi=>by rw[hno] at hi;cases hi) ?_ S.fr ?_
 ·rw[e1,e2]
  exact (R0.names hle).mono (fun i hi=> .inl hi) (fun i hi=>by
   rcases hi with hi | ⟨k,e,_,hd,_⟩
   ·omega
   ·rw[hno] at hd;cases hd)
 ·exact ST.trans ⟨rfl,rfl,rfl,Nat.le_refl _,fun _ _ _=>rfl,fun _ h=>h,fun _ _ h=>h,fun _ C _ _ h=>⟨C,h,rfl⟩⟩
end
end Go.Proofs.VI
end
section
set_option linter.unusedVariables false
set_option linter.unusedSimpArgs false
namespace Go.Proofs.VI
open Go
section
variable {P:Program} {w w' w0:World} {κ κ' κ0 κ3 κc:Gh} {m m':Nat→Addr} {n n' N:Nat} {s s':Slots} {h h':Heap} {a:Act} {L L':AV→Value→Prop} {tt:TypeId→Option TI} {C:FuncId→List AV→AV→List (Option AV)→Prop}
def Fz (κ κ':Gh) (S:Key→Prop):Prop:=∀ b,κ' b=κ b∨(κ' b=some .imm∧∃ K,S K∧κ b=some (.key K))
def Under (K:Key) (K':Key):Prop:=∃ q,K'=(K.1,K.2++q)
def UnderC (K:Key) (r c:Nat) (K':Key):Prop:=∃ c' q,c≤c'∧K'=(K.1,K.2++(r,c')::q)
def UnderR (K:Key) (r:Nat) (K':Key):Prop:=∃ r' c' q,r≤r'∧K'=(K.1,K.2++(r',c')::q)
theorem Fz.refl (κ:Gh) (S:Key→Prop):Fz κ κ S:=fun b=> .inl rfl
theorem Fz.mono {S S':Key→Prop} (x:Fz κ κ' S) (hS:∀ K,S K→S' K):Fz κ κ' S':=fun b=>(x b).imp id fun ⟨h1,K,h2,h3⟩=>⟨h1,K,hS K h2,h3⟩
theorem Fz.trans {κ1 κ2:Gh} {S:Key→Prop} (x:Fz κ κ1 S) (y:Fz κ1 κ2 S):Fz κ κ2 S:=fun b=>by
 rcases x b with hx | ⟨hx,K,h2,h3⟩
 ·rcases y b with hy | ⟨hy,K,h2,h3⟩
  ·exact .inl (hy.trans hx)
  ·exact .inr ⟨hy,K,h2,hx▸h3⟩
 ·rcases y b with hy | ⟨hy,K',h4,h5⟩
  ·exact .inr ⟨hy.trans hx,K,h2,h3⟩
  ·rw[hx] at h5;cases h5
theorem Fz.imm {S:Key→Prop} (x:Fz κ κ' S) (w:World):ImmMap w w κ κ':=fun b hb=>⟨by
 rcases x b with h | ⟨h,_⟩
 ·rw[h];exact hb
 ·exact h,rfl⟩
theorem Fz.key {S:Key→Prop} (x:Fz κ κ' S) {b:Nat} {K:Key} (hb:κ b=some (.key K)) (hS:¬ S K):κ' b=some (.key K):=by
 rcases x b with h | ⟨h,K',h1,h2⟩
 ·rw[h];exact hb
 ·rw[hb] at h2;injection h2 with h2;injection h2 with h2;subst h2;exact absurd h1 hS
theorem Fz.keyMap {S:Key→Prop} (x:Fz κ κ' S) (w:World) {K:Key} (hS:∀ q,¬ S (K.1,K.2++q)):KeyMap w w κ κ' (some K) (some K):=⟨K,rfl,fun q b hb=>⟨x.key hb (hS q),rfl⟩⟩
theorem relRow_moveC (hI:ImmMap w w' κ κ'):∀ {cs:List AV} {K K':Option Key} {r c:Nat} {C:Array Value} {o:Nat},(∀ c',c≤c'→KeyMap w w' κ κ' (kid K r c') (kid K' r c'))→relRow w κ K r c cs C o→relRow w' κ' K' r c cs C o
 | [],_,_,_,_,_,_,_,_=>trivial
 | v::cs,K,K',r,c,C,o,hK,h=>by
  obtain ⟨⟨u,hu,h1⟩,h2⟩:=h
  exact ⟨⟨u,hu,relV_move hI (fun _ _ h=>h) v _ _ u (hK c (Nat.le_refl _)) h1⟩,relRow_moveC hI (fun c' hc'=>hK c' (by omega)) h2⟩
theorem relL_moveC (hI:ImmMap w w' κ κ'):∀ {cs:List AV} {K K':Option Key} {c:Nat} {us:List Value},(∀ c',c≤c'→KeyMap w w' κ κ' (kid K 0 c') (kid K' 0 c'))→relL w κ L K c cs us→relL w' κ' L K' c cs us
 | [],_,_,_,_,_,h=>h
 | v::cs,K,K',c,_,hK,h=>by
  obtain ⟨u,us,rfl,h1,h2⟩:=h
  exact ⟨u,us,rfl,relV_move hI (fun _ _ h=>h) v _ _ u (hK c (Nat.le_refl _)) h1,relL_moveC hI (fun c' hc'=>hK c' (by omega)) h2⟩
theorem relRs_moveR (hI:ImmMap w w' κ κ'):∀ {rows:List (List AV)} {K K':Option Key} {k r:Nat} {C:Array Value} {o:Nat},(∀ r' c',r≤r'→KeyMap w w' κ κ' (kid K r' c') (kid K' r' c'))→relRs w κ K k r rows C o→relRs w' κ' K' k r rows C o
 | [],_,_,_,_,_,_,_,_=>trivial
 | row::rows,K,K',k,r,C,o,hK,h=>by
  obtain ⟨h0,h1,h2⟩:=h
  exact ⟨h0,relRow_moveC hI (fun c' _=>hK r c' (Nat.le_refl _)) h1,relRs_moveR hI (fun r' c' hr=>hK r' c' (by omega)) h2⟩
theorem app_ne {p:List (Nat×Nat)} {x y:Nat×Nat} {q q':List (Nat×Nat)} (hxy:x≠y):p++x::q≠p++y::q':=fun e=>by
 have:=List.append_cancel_left e
 injection this with h1 h2
 exact hxy h1
mutual
theorem toRo_any:∀ (v:AV) (K K':Option Key) (u:Value),relV w κ L K (toRo v) u→relV w κ L K' (toRo v) u
 | .und,_,_,_,h=>h
 | .int ..,_,_,_,h=>h
 | .bool ..,_,_,_,h=>h
 | .tt,_,_,_,h=>h
 | .ff,_,_,_,h=>h
 | .str ..,_,_,_,h=>h
 | .nilp,_,_,_,h=>h
 | .nili,_,_,_,h=>h
 | .nils,_,_,_,h=>h
 | .ifc,_,_,_,h=>h
 | .own ..,_,_,_,h=>h
 | .sl ..,_,_,_,h=>h
 | .ptr ..,_,_,_,h=>h
 | .ro ..,_,_,_,h=>h
 | .ow ..,_,_,_,h=>h
 | .rp ..,_,_,_,h=>h
 | .pb ..,_,_,_,h=>h
 | .fn ..,_,_,_,h=>h
 | .agg cs,K,K',u,h=>by
  obtain ⟨vs,hu,h⟩:=h
  exact ⟨vs,hu,toRoL_any cs _ _ _ _ h⟩
 | .tup cs,K,K',u,h=>by
  obtain ⟨vs,hu,h⟩:=h
  exact ⟨vs,hu,toRoL_any cs _ _ _ _ h⟩
theorem toRoL_any:∀ (cs:List AV) (K K':Option Key) (c:Nat) (us:List Value),relL w κ L K c (toRoL cs) us→relL w κ L K' c (toRoL cs) us
 | [],_,_,_,_,h=>h
 | v::cs,K,K',c,us,h=>by
  obtain ⟨u,us',rfl,h1,h2⟩:=h
  exact ⟨u,us',rfl,toRo_any v _ _ _ h1,toRoL_any cs _ _ _ _ h2⟩
end
def frzK (κ:Gh) (K:Key):Gh:=fun b=>match κ b with
 | some (.key K')=>if K'.1=K.1∧K.2 <+:K'.2 then some .imm else some (.key K')
 | x=>x
theorem frzK_fz (κ:Gh) (K:Key):Fz κ (frzK κ K) (Under K):=fun b=>by
 unfold frzK
 split
 ·rename_i K' hK
  split
  ·rename_i hp
   obtain ⟨h1,q,h2⟩:=hp
   exact .inr ⟨rfl,K',⟨q,by rw[h2,←h1]⟩,hK⟩
  ·exact .inl hK.symm
 ·exact .inl rfl
theorem frzK_imm (κ:Gh) (K:Key):ImmKey κ (frzK κ K) (some K):=fun q b hb=>by simp[frzK,hb]
theorem under_kid {K:Key} {r c:Nat} {K':Key} (h:Under (K.1,K.2++[(r,c)]) K'):UnderC K r c K':=by
 obtain ⟨q,rfl⟩:=h
 exact ⟨c,q,Nat.le_refl _,by simp⟩
theorem underC_succ {K:Key} {r c:Nat} {K':Key} (h:UnderC K r (c+1) K'):UnderC K r c K':=by
 obtain ⟨c',q,h1,h2⟩:=h
 exact ⟨c',q,by omega,h2⟩
theorem underC_R {K:Key} {r c:Nat} {K':Key} (h:UnderC K r c K'):UnderR K r K':=by
 obtain ⟨c',q,h1,h2⟩:=h
 exact ⟨r,c',q,Nat.le_refl _,h2⟩
theorem underR_succ {K:Key} {r:Nat} {K':Key} (h:UnderR K (r+1) K'):UnderR K r K':=by
 obtain ⟨r',c',q,h1,h2⟩:=h
 exact ⟨r',c',q,by omega,h2⟩
theorem underC_U {K:Key} {r c:Nat} {K':Key} (h:UnderC K r c K'):Under K K':=by
 obtain ⟨c',q,h1,h2⟩:=h
 exact ⟨_,h2⟩
theorem underR_U {K:Key} {r:Nat} {K':Key} (h:UnderR K r K'):Under K K':=by
 obtain ⟨r',c',q,h1,h2⟩:=h
 exact ⟨_,h2⟩
theorem keep_rest {K:Key} {r c c':Nat} (x:Fz κ κ' (Under (K.1,K.2++[(r,c)]))) (hc:c+1≤c'):KeyMap w w κ κ' (kid (some K) r c') (kid (some K) r c'):=x.keyMap w fun q hS=>by
 obtain ⟨q',e⟩:=hS
 injection e with _ e
 simp only[List.append_assoc,List.cons_append,List.nil_append] at e
 exact app_ne (by simp;omega) e
theorem keep_first {K:Key} {r c:Nat} (x:Fz κ κ' (UnderC K r (c+1))):KeyMap w w κ κ' (kid (some K) r c) (kid (some K) r c):=x.keyMap w fun q hS=>by
 obtain ⟨c',q',h1,e⟩:=hS
 injection e with _ e
 simp only[List.append_assoc,List.cons_append,List.nil_append] at e
 exact app_ne (by simp;omega) e
theorem keep_restR {K:Key} {r r' c c':Nat} (x:Fz κ κ' (UnderC K r c)) (hr:r+1≤r'):KeyMap w w κ κ' (kid (some K) r' c') (kid (some K) r' c'):=x.keyMap w fun q hS=>by
 obtain ⟨c',q',h1,e⟩:=hS
 injection e with _ e
 simp only[List.append_assoc,List.cons_append,List.nil_append] at e
 exact app_ne (by simp;omega) e
theorem keep_firstR {K:Key} {r c':Nat} (x:Fz κ κ' (UnderR K (r+1))):KeyMap w w κ κ' (kid (some K) r c') (kid (some K) r c'):=x.keyMap w fun q hS=>by
 obtain ⟨r',c',q',h1,e⟩:=hS
 injection e with _ e
 simp only[List.append_assoc,List.cons_append,List.nil_append] at e
 exact app_ne (by simp;omega) e
theorem SimL.len {l l':List AV} (x:SimL l l'):l.length=l'.length:=by
 cases x with
 | refl=>rfl
 | cons h1 h2=>simp[SimL.len h2]
termination_by l.length
theorem SimRows.len {l l':List (List AV)} (x:SimRows l l'):l.length=l'.length:=by
 cases x with
 | refl=>rfl
 | cons h1 h2=>simp[SimRows.len h2]
termination_by l.length
def SimP (w:World) (v v':AV):Prop:=∀ (L:AV→Value→Prop) (κ:Gh) (K:Key) (u:Value),relV w κ L (some K) v u→∃ κ',Fz κ κ' (Under K)∧relV w κ' L (some K) v' u
def SimLP (w:World) (l l':List AV):Prop:=(∀ (L:AV→Value→Prop) (κ:Gh) (K:Key) (c:Nat) (us:List Value),relL w κ L (some K) c l us→∃ κ',Fz κ κ' (UnderC K 0 c)∧relL w κ' L (some K) c l' us)∧
 ∀ (κ:Gh) (K:Key) (r c:Nat) (C:Array Value) (o:Nat),relRow w κ (some K) r c l C o→∃ κ',Fz κ κ' (UnderC K r c)∧relRow w κ' (some K) r c l' C o
def SimRP (w:World) (l l':List (List AV)):Prop:=∀ (κ:Gh) (K:Key) (k r:Nat) (C:Array Value) (o:Nat),relRs w κ (some K) k r l C o→∃ κ',Fz κ κ' (UnderR K r)∧relRs w κ' (some K) k r l' C o
theorem SimP.ow {w:World} {k:Nat} {rs rs':List (List AV)} (hl:rs.length=rs'.length) (x:SimRP w rs rs'):SimP w (.ow k rs) (.ow k rs'):=fun L κ K u hv=>by
 obtain ⟨A,cap,hu,hcap,h⟩:=hv
 rcases h with h | ⟨b,off,C,t,fr,hA,hb,hf,hk,hs,hr⟩
 ·exact ⟨κ,Fz.refl _ _,A,cap,by rw[←hl];exact hu,by rw[←hl];exact hcap,.inl h⟩
 ·obtain ⟨κ',x1,hr'⟩:=x κ K k 0 C off hr
  refine ⟨κ',x1.mono fun K' hK=>underR_U hK,A,cap,by rw[←hl];exact hu,by rw[←hl];exact hcap,.inr ⟨b,off,C,t,fr,hA,hb,hf,x1.key hk fun hS=>?_,hs,hr'⟩⟩
  obtain ⟨r',c',q,_,e⟩:=hS
  have e:=congrArg (fun z:Key=>z.2.length) e
  simp at e
theorem SimP.pb {w:World} {l l':List AV} (x:SimLP w l l'):SimP w (.pb l) (.pb l'):=fun L κ K u hv=>by
 obtain ⟨b,off,C,t,fr,hu,hb,hf,hk,hr⟩:=hv
 obtain ⟨κ',x1,hr'⟩:=x.2 κ K 0 0 C off hr
 refine ⟨κ',x1.mono fun K' hK=>underC_U hK,b,off,C,t,fr,hu,hb,hf,x1.key hk fun hS=>?_,hr'⟩
 obtain ⟨c',q,_,e⟩:=hS
 have e:=congrArg (fun z:Key=>z.2.length) e
 simp at e
theorem SimLP.cons {w:World} {a b:AV} {l m:List AV} (x:SimP w a b) (y:SimLP w l m):SimLP w (a::l) (b::m):=by
 refine ⟨fun L κ K c us hv=>?_,fun κ K r c C o hv=>?_⟩
 ·obtain ⟨u,us',rfl,h1,h2⟩:=hv
  obtain ⟨κ1,x1,h3⟩:=x L κ (K.1,K.2++[(0,c)]) u h1
  have h4:relL w κ1 L (some K) (c+1) l us':=relL_moveC (x1.imm w) (fun c' hc'=>keep_rest x1 hc') h2
  obtain ⟨κ2,x2,h5⟩:=y.1 L κ1 K (c+1) us' h4
  exact ⟨κ2,(x1.mono fun K' hK=>under_kid hK).trans (x2.mono fun K' hK=>underC_succ hK),u,us',rfl,relV_move (x2.imm w) (fun _ _ h=>h) b _ _ u (keep_first x2) h3,h5⟩
 ·obtain ⟨⟨u,hu,h1⟩,h2⟩:=hv
  obtain ⟨κ1,x1,h3⟩:=x noL κ (K.1,K.2++[(r,c)]) u h1
  have h4:relRow w κ1 (some K) r (c+1) l C (o+1):=relRow_moveC (x1.imm w) (fun c' hc'=>keep_rest x1 hc') h2
  obtain ⟨κ2,x2,h5⟩:=y.2 κ1 K r (c+1) C (o+1) h4
  exact ⟨κ2,(x1.mono fun K' hK=>under_kid hK).trans (x2.mono fun K' hK=>underC_succ hK),⟨u,hu,relV_move (x2.imm w) (fun _ _ h=>h) b _ _ u (keep_first x2) h3⟩,h5⟩
theorem SimRP.cons {w:World} {a b:List AV} {l m:List (List AV)} (hl:a.length=b.length) (x:SimLP w a b) (y:SimRP w l m):SimRP w (a::l) (b::m):=fun κ K k r C o hv=>by
 obtain ⟨h0,h1,h2⟩:=hv
 obtain ⟨κ1,x1,h3⟩:=x.2 κ K r 0 C o h1
 have h4:relRs w κ1 (some K) k (r+1) l C (o+k):=relRs_moveR (x1.imm w) (fun r' c' hr'=>keep_restR x1 hr') h2
 obtain ⟨κ2,x2,h5⟩:=y κ1 K k (r+1) C (o+k) h4
 exact ⟨κ2,(x1.mono fun K' hK=>underC_R hK).trans (x2.mono fun K' hK=>underR_succ hK),by rw[←hl];exact h0,relRow_moveC (x2.imm w) (fun c' _=>keep_firstR x2) h3,h5⟩
theorem Sim_sound (w:World) {v v':AV} (x:Sim v v'):SimP w v v':=by
 refine Sim.rec (motive_1:=fun v v' _=>SimP w v v') (motive_2:=fun l l' _=>SimLP w l l') (motive_3:=fun l l' _=>SimRP w l l') ?_ ?_ ?_ ?_ ?_ ?_ ?_ ?_ ?_ ?_ ?_ ?_ ?_ ?_ ?_ ?_ ?_ ?_ x
 ·exact fun v L κ K u hv=>⟨κ,Fz.refl _ _,hv⟩
 ·rintro k L κ K u ⟨A,hu⟩
  exact ⟨κ,Fz.refl _ _,A,0,hu,Nat.le_refl _,.inl rfl⟩
 ·rintro k L κ K u ⟨A,hu⟩
  exact ⟨κ,Fz.refl _ _,A,0,hu,Nat.le_refl _,.inl rfl⟩
 ·rintro k k' L κ K u ⟨A,cap,hu,hc,_⟩
  exact ⟨κ,Fz.refl _ _,A,cap,hu,hc,.inl rfl⟩
 ·intro v L κ K u hv
  exact ⟨frzK κ K,frzK_fz κ K,toRo_any v none (some K) u (toRo_rel (fun b hb=>((frzK_fz κ K).imm w b hb).1) (fun _ _ h=>h) v (some K) u (frzK_imm κ K) hv)⟩
 ·rintro k rows L κ K u ⟨A,cap,hu,_⟩
  exact ⟨κ,Fz.refl _ _,by rw[hu];rfl⟩
 ·rintro L κ K u ⟨A,hu⟩
  exact ⟨κ,Fz.refl _ _,by rw[hu];rfl⟩
 ·exact fun L κ K u hv=>⟨κ,Fz.refl _ _,hv⟩
 ·exact fun L κ K u hv=>⟨κ,Fz.refl _ _,hv⟩
 ·exact fun h ih=>SimP.ow (SimRows.len h) ih
 ·rintro l l' h ih L κ K u ⟨us,hu,hr⟩
  obtain ⟨κ',x1,hr'⟩:=ih.1 L κ K 0 us hr
  exact ⟨κ',x1.mono fun K' hK=>underC_U hK,us,hu,hr'⟩
 ·rintro l l' h ih L κ K u ⟨us,hu,hr⟩
  obtain ⟨κ',x1,hr'⟩:=ih.1 L κ K 0 us hr
  exact ⟨κ',x1.mono fun K' hK=>underC_U hK,us,hu,hr'⟩
 ·exact fun h ih=>SimP.pb ih
 ·rintro a b c h1 h2 ih1 ih2 L κ K u hv
  obtain ⟨κ1,x1,hv1⟩:=ih1 L κ K u hv
  obtain ⟨κ2,x2,hv2⟩:=ih2 L κ1 K u hv1
  exact ⟨κ2,x1.trans x2,hv2⟩
 ·exact fun l=>⟨fun L κ K c us hv=>⟨κ,Fz.refl _ _,hv⟩,fun κ K r c C o hv=>⟨κ,Fz.refl _ _,hv⟩⟩
 ·exact fun h1 h2 ih1 ih2=>SimLP.cons ih1 ih2
 ·exact fun l κ K k r C o hv=>⟨κ,Fz.refl _ _,hv⟩
 ·exact fun h1 h2 ih1 ih2=>SimRP.cons (SimL.len h1) ih1 ih2
theorem SimRows_sound (w:World) {l l':List (List AV)} (x:SimRows l l'):SimRP w l l':=by
 have h:=Sim_sound w (Sim.ow (k:=0) x)
 refine SimRows.rec (motive_1:=fun v v' _=>SimP w v v') (motive_2:=fun l l' _=>SimLP w l l') (motive_3:=fun l l' _=>SimRP w l l') ?_ ?_ ?_ ?_ ?_ ?_ ?_ ?_ ?_ ?_ ?_ ?_ ?_ ?_ ?_ ?_ ?_ ?_ x
 ·exact fun v=>Sim_sound w (.refl v)
 ·exact fun k=>Sim_sound w (.nil k)
 ·exact fun k=>Sim_sound w (.nilr k)
 ·exact fun k k'=>Sim_sound w (.nilo k k')
 ·exact fun v=>Sim_sound w (.frz v)
 ·exact fun k rows=>Sim_sound w (.anyr k rows)
 ·exact Sim_sound w .anyn
 ·exact Sim_sound w .tt
 ·exact Sim_sound w .ff
 ·exact fun h ih=>Sim_sound w (.ow h)
 ·exact fun h ih=>Sim_sound w (.agg h)
 ·exact fun h ih=>Sim_sound w (.tup h)
 ·exact fun h ih=>Sim_sound w (.pb h)
 ·exact fun h1 h2 ih1 ih2=>Sim_sound w (.trans h1 h2)
 ·exact fun l=>⟨fun L κ K c us hv=>⟨κ,Fz.refl _ _,hv⟩,fun κ K r c C o hv=>⟨κ,Fz.refl _ _,hv⟩⟩
 ·exact fun h1 h2 ih1 ih2=>SimLP.cons ih1 ih2
 ·exact fun l κ K k r C o hv=>⟨κ,Fz.refl _ _,hv⟩
 ·exact fun h1 h2 ih1 ih2=>SimRP.cons (SimL.len h1) ih1 ih2
end
end Go.Proofs.VI
end
section
set_option linter.unusedVariables false
set_option linter.unusedSimpArgs false
namespace Go.Proofs.VI
open Go
section
variable {P:Program} {w w' w0:World} {κ κ' κ0 κ3 κc:Gh} {m m':Nat→Addr} {n n' N:Nat} {s s':Slots} {h h':Heap} {a:Act} {L L':AV→Value→Prop} {tt:TypeId→Option TI} {C:FuncId→List AV→AV→List (Option AV)→Prop}
abbrev Ren:=List (Nat×Nat)
def look (ren:Ren) (i j:Nat):Prop:=∃ p,ren.find? (fun p=>Nat.beq p.1 i)=some (p,j)
theorem look_fun {ren:Ren} {i j j':Nat} (h:look ren i j) (h':look ren i j'):j=j':=by
 obtain ⟨p,h⟩:=h
 obtain ⟨p',h'⟩:=h'
 rw[h] at h'
 injection h' with h'
 injection h'
def Ext (ren ren':Ren):Prop:=∀ i j,look ren i j→look ren' i j
theorem addRen_ext {ren:Ren} {i j:Nat} {K:Ren→Prop} (hk:addRen ren i j K):∃ ren',K ren'∧Ext ren ren'∧look ren' i j:=by
 unfold addRen at hk
 split at hk
 ·rename_i p j' hf
  cases hb:Nat.beq j j' with
  | false=>rw[hb] at hk;exact hk.elim
  | true=>
   rw[hb] at hk
   have:=Nat.eq_of_beq_eq_true hb
   subst this
   exact ⟨ren,hk,fun _ _ h=>h,p,hf⟩
 ·rename_i hf
  refine ⟨_,hk,fun x y ⟨p,hp⟩=>?_,i,?_⟩
  ·refine ⟨p,?_⟩
   rw[List.find?_cons]
   cases hb:Nat.beq i x with
   | false=>exact hp
   | true=>
    have:=Nat.eq_of_beq_eq_true hb
    subst this
    rw[hf] at hp;cases hp
  ·rw[List.find?_cons]
   simp[beqT]
def RenC (f:Nat→Nat→Prop) (x v:AV):Prop:=match v with
 | .own i=>∃ j,x= .own j∧f i j
 | .sl i o l=>∃ j,x= .sl j o l∧f i j
 | .ptr i r c=>∃ j,x= .ptr j r c∧f i j
 | .agg _=>False
 | .tup _=>False
 | .fn _ _=>False
 | v=>x=v
def RenCs (f:Nat→Nat→Prop) (xs vs:List AV):Prop:=match vs with
 | []=>xs=[]
 | v::vs=>∃ x xs',xs=x::xs'∧RenC f x v∧RenCs f xs' vs
def RenA (f:Nat→Nat→Prop) (x v:AV):Prop:=match v with
 | .agg vs=>∃ xs,x= .agg xs∧RenCs f xs vs
 | .fn g vs=>∃ xs,x= .fn g xs∧RenCs f xs vs
 | v=>RenC f x v
theorem RenC.mono {f g:Nat→Nat→Prop} (hf:∀ i j,f i j→g i j) {x v:AV} (h:RenC f x v):RenC g x v:=by
 cases v<;>first
  | exact h
  | (obtain ⟨j,h1,h2⟩:=h;exact ⟨j,h1,hf _ _ h2⟩)
theorem RenCs.mono {f g:Nat→Nat→Prop} (hf:∀ i j,f i j→g i j):∀ {vs xs:List AV},RenCs f xs vs→RenCs g xs vs
 | [],xs,h=>h
 | v::vs,xs,h=>by
  obtain ⟨x,xs',h1,h2,h3⟩:=h
  exact ⟨x,xs',h1,h2.mono hf,RenCs.mono hf h3⟩
theorem RenA.mono {f g:Nat→Nat→Prop} (hf:∀ i j,f i j→g i j) {x v:AV} (h:RenA f x v):RenA g x v:=by
 have other:RenC f x v→RenC g x v:=RenC.mono hf
 cases v with
 | agg vs=>obtain ⟨xs,h1,h2⟩:=h;exact ⟨xs,h1,h2.mono hf⟩
 | fn g vs=>obtain ⟨xs,h1,h2⟩:=h;exact ⟨xs,h1,h2.mono hf⟩
 | _=>exact other h
theorem renC_ext {x v:AV} {ren:Ren} {K:Ren→Prop} (hk:renC x v ren K):∃ ren',K ren'∧Ext ren ren'∧RenC (look ren') x v:=by
 cases v<;>simp only[renC] at hk
 case own i=>
  split at hk
  ·obtain ⟨ren',h1,h2,h3⟩:=addRen_ext hk
   exact ⟨ren',h1,h2,_,rfl,h3⟩
  ·exact hk.elim
 case sl i o l=>
  split at hk
  ·obtain ⟨e1,e2,hk⟩:=hk
   obtain ⟨ren',h1,h2,h3⟩:=addRen_ext hk
   exact ⟨ren',h1,h2,_,by rw[e1,e2],h3⟩
  ·exact hk.elim
 case ptr i r c=>
  split at hk
  ·obtain ⟨e1,e2,hk⟩:=hk
   obtain ⟨ren',h1,h2,h3⟩:=addRen_ext hk
   exact ⟨ren',h1,h2,_,by rw[e1,e2],h3⟩
  ·exact hk.elim
 all_goals exact ⟨ren,hk.2,fun _ _ h=>h,hk.1⟩
theorem renCs_ext:∀ {vs xs:List AV} {ren:Ren} {K:Ren→Prop},renCs xs vs ren K→∃ ren',K ren'∧Ext ren ren'∧RenCs (look ren') xs vs
 | [],[],ren,K,hk=>⟨ren,hk,fun _ _ h=>h,rfl⟩
 | [],x::xs,ren,K,hk=>(show False from hk).elim
 | v::vs,[],ren,K,hk=>(show False from hk).elim
 | v::vs,x::xs,ren,K,hk=>by
  obtain ⟨ren1,hk,e1,r1⟩:=renC_ext (show renC x v ren _ from hk)
  obtain ⟨ren2,hk,e2,r2⟩:=renCs_ext hk
  exact ⟨ren2,hk,fun i j h=>e2 i j (e1 i j h),x,xs,rfl,r1.mono e2,r2⟩
theorem renA_ext {x v:AV} {ren:Ren} {K:Ren→Prop} (hk:renA x v ren K):∃ ren',K ren'∧Ext ren ren'∧RenA (look ren') x v:=by
 cases v<;>simp only[renA] at hk
 case agg vs=>
  split at hk
  ·obtain ⟨ren',h1,h2,h3⟩:=renCs_ext hk
   exact ⟨ren',h1,h2,_,rfl,h3⟩
  ·exact hk.elim
 case fn f vs=>
  split at hk
  ·obtain ⟨e,hk⟩:=hk
   obtain ⟨ren',h1,h2,h3⟩:=renCs_ext hk
   exact ⟨ren',h1,h2,_,by rw[e],h3⟩
  ·exact hk.elim
 all_goals exact renC_ext hk
theorem thaw_rel {x v:AV} {u:Value} (hx:relV w κ (liveV w κ m n h) none x u):relV w κ (liveV w κ m n h) none (thaw h x v) u:=by
 cases x
 case own id=>
  cases v
  case ro k rows=>
   cases hb:h id with
   | none=>simp only[thaw,hb];exact hx
   | some B=>
    cases B with
    | box row hs=>simp only[thaw,hb];exact hx
    | rows k' rs hs=>
     cases rs with
     | nil=>
      simp only[thaw,hb]
      have hx:liveV w κ m n h (.own id) u:=hx
      obtain ⟨_,_,hx⟩:=hx
      rw[hb] at hx
      obtain ⟨A,cap,e,hl,_⟩:=hx
      exact ⟨A,cap,e,hl,.inl rfl⟩
     | cons r rs=>simp only[thaw,hb];exact hx
  all_goals exact hx
 case tt=>cases v<;>exact hx
 case ff=>cases v<;>exact hx
 all_goals exact hx
theorem slotsLe_ext:∀ {l:List (Nat×AV)} {ren:Ren} {K:Ren→Prop},slotsLe s h l ren K→∃ ren',K ren'∧Ext ren ren'∧∀ t v,(t,v)∈l→∃ x,s t=some x∧RenA (look ren') (thaw h x v) v
 | [],ren,K,hk=>⟨ren,hk,fun _ _ h=>h,fun t v h=>by simp at h⟩
 | (t,v)::l,ren,K,hk=>by
  simp only[slotsLe] at hk
  split at hk
  ·rename_i x hx
   obtain ⟨ren1,hk,e1,r1⟩:=renA_ext hk
   obtain ⟨ren2,hk,e2,r2⟩:=slotsLe_ext hk
   refine ⟨ren2,hk,fun i j h=>e2 i j (e1 i j h),fun t' v' hm=>?_⟩
   rcases List.mem_cons.1 hm with e | hm
   ·injection e with e3 e4
    subst e3;subst e4
    exact ⟨x,hx,r1.mono e2⟩
   ·exact r2 t' v' hm
  ·exact hk.elim
structure NameMap (f:Nat→Nat→Prop) (N:Nat) (L L':AV→Value→Prop):Prop where
 own:∀ i j u,i < N→f i j→L (.own j) u→L' (.own i) u
 sl:∀ i j o l u,i < N→f i j→L (.sl j o l) u→L' (.sl i o l) u
 ptr:∀ i j r c u,i < N→f i j→L (.ptr j r c) u→L' (.ptr i r c) u
theorem RenC.rel {f:Nat→Nat→Prop} (hI:ImmMap w w' κ κ') (M:NameMap f N L L') {x v:AV} {u:Value} (hr:RenC f x v) (hn:∀ i∈idsC v,i < N) (hv:relV w κ L none x u):relV w' κ' L' none v u:=by
 cases v with
 | own i=>obtain ⟨j,rfl,hf⟩:=hr;exact M.own i j u (hn i (List.mem_singleton.2 rfl)) hf hv
 | sl i o l=>obtain ⟨j,rfl,hf⟩:=hr;exact M.sl i j o l u (hn i (List.mem_singleton.2 rfl)) hf hv
 | ptr i r c=>obtain ⟨j,rfl,hf⟩:=hr;exact M.ptr i j r c u (hn i (List.mem_singleton.2 rfl)) hf hv
 | agg l=>exact hr.elim
 | tup l=>exact hr.elim
 | fn g l=>exact hr.elim
 | ro k rows=>
  have hr:x=_:=hr
  subst hr
  exact relV_move (L:=L') (L':=L') hI (fun _ _ h=>h) (.ro k rows) none none u .none_ hv
 | ow k rows=>
  have hr:x=_:=hr
  subst hr
  exact relV_move (L:=L') (L':=L') hI (fun _ _ h=>h) (.ow k rows) none none u .none_ hv
 | rp row c=>
  have hr:x=_:=hr
  subst hr
  exact relV_move (L:=L') (L':=L') hI (fun _ _ h=>h) (.rp row c) none none u .none_ hv
 | pb row=>
  have hr:x=_:=hr
  subst hr
  exact relV_move (L:=L') (L':=L') hI (fun _ _ h=>h) (.pb row) none none u .none_ hv
 | _=>
  have hr:x=_:=hr
  subst hr
  exact hv
theorem RenCs.rel {f:Nat→Nat→Prop} (hI:ImmMap w w' κ κ') (M:NameMap f N L L'):∀ {vs xs:List AV} {c:Nat} {us:List Value},RenCs f xs vs→(∀ i∈idsCs vs,i < N)→relL w κ L none c xs us→relL w' κ' L' none c vs us
 | [],xs,c,us,hr,hn,hv=>by
  have hr:xs=[]:=hr
  subst hr
  exact hv
 | v::vs,xs,c,us,hr,hn,hv=>by
  obtain ⟨x,xs',rfl,h1,h2⟩:=hr
  obtain ⟨u,us',rfl,h3,h4⟩:=hv
  exact ⟨u,us',rfl,RenC.rel hI M h1 (fun i hi=>hn i (List.mem_append_left _ hi)) h3,RenCs.rel hI M h2 (fun i hi=>hn i (List.mem_append_right _ hi)) h4⟩
theorem RenA.rel {f:Nat→Nat→Prop} (hI:ImmMap w w' κ κ') (M:NameMap f N L L') {x v:AV} {u:Value} (hr:RenA f x v) (hn:∀ i∈idsOf v,i < N) (hv:relV w κ L none x u):relV w' κ' L' none v u:=by
 have other:(∀ i∈idsC v,i < N)→RenC f x v→relV w' κ' L' none v u:=fun hn hr=>RenC.rel hI M hr hn hv
 cases v with
 | agg vs=>
  obtain ⟨xs,rfl,h2⟩:=hr
  obtain ⟨us,hu,hr⟩:=hv
  exact ⟨us,hu,RenCs.rel hI M h2 hn hr⟩
 | fn g vs=>
  obtain ⟨xs,rfl,h2⟩:=hr
  obtain ⟨us,hu,hr⟩:=hv
  exact ⟨us,hu,RenCs.rel hI M h2 hn hr⟩
 | tup l=>exact (show False from hr).elim
 | _=>exact other hn hr
theorem above_le:∀ {l:List Nat} {n:Nat},n≤above n l∧∀ i∈l,i < above n l
 | [],n=>⟨Nat.le_refl _,fun i hi=>by simp at hi⟩
 | j::l,n=>by
  simp only[above]
  cases hb:Nat.blt j n with
  | true=>
   simp only[cond_true]
   obtain ⟨h1,h2⟩:=above_le (l:=l) (n:=n)
   refine ⟨h1,fun i hi=>?_⟩
   rcases List.mem_cons.1 hi with e | hi
   ·have:=bltT.1 hb;omega
   ·exact h2 i hi
  | false=>
   simp only[cond_false]
   obtain ⟨h1,h2⟩:=above_le (l:=l) (n:=j+1)
   have hn:¬ j < n:=fun h=>by rw[bltT.2 h] at hb;cases hb
   refine ⟨by omega,fun i hi=>?_⟩
   rcases List.mem_cons.1 hi with e | hi
   ·omega
   ·exact h2 i hi
theorem aboveS_le:∀ {l:List (Nat×AV)} {n:Nat},n≤aboveS n l∧∀ t v,(t,v)∈l→∀ i∈idsOf v,i < aboveS n l
 | [],n=>⟨Nat.le_refl _,fun t v hi=>by simp at hi⟩
 | (t,v)::l,n=>by
  simp only[aboveS]
  obtain ⟨h1,h2⟩:=aboveS_le (l:=l) (n:=above n (idsOf v))
  obtain ⟨h3,h4⟩:=above_le (l:=idsOf v) (n:=n)
  refine ⟨by omega,fun t' v' hi i hii=>?_⟩
  rcases List.mem_cons.1 hi with e | hi
  ·injection e with e1 e2
   subst e2
   have:=h4 i hii;omega
  ·exact h2 t' v' hi i hii
def boxHs:Blk→List Hole
 | .box _ hs=>hs
 | .rows _ _ _=>[]
theorem idsH_mem {x:Hole}:∀ {l:List Hole},x∈l→x.id∈idsH l
 | y::l,h=>by
  rcases List.mem_cons.1 h with e | h
  ·subst e;exact List.mem_cons_self ..
  ·exact List.mem_cons_of_mem _ (idsH_mem h)
theorem aboveH_le:∀ {l:List (Nat×Blk)} {n:Nat},n≤aboveH n l∧(∀ i b,(i,b)∈l→i < aboveH n l)∧∀ i b,(i,b)∈l→∀ x∈boxHs b,x.id < aboveH n l
 | [],n=>⟨Nat.le_refl _,fun t v hi=>by simp at hi,fun t v hi=>by simp at hi⟩
 | (t,v)::l,n=>by
  simp only[aboveH]
  obtain ⟨h1,h2,h5⟩:=aboveH_le (l:=l) (n:=above n (t::idsB v))
  obtain ⟨h3,h4⟩:=above_le (l:=t::idsB v) (n:=n)
  refine ⟨by omega,fun t' v' hi=>?_,fun t' v' hi x hx=>?_⟩
  ·rcases List.mem_cons.1 hi with e | hi
   ·injection e with e1 e2
    subst e1
    have:=h4 t' (List.mem_cons_self ..);omega
   ·exact h2 t' v' hi
  ·rcases List.mem_cons.1 hi with e | hi
   ·injection e with e1 e2
    subst e2
    cases v' with
    | rows=>cases hx
    | box row hs=>have:=h4 x.id (List.mem_cons_of_mem _ (idsH_mem hx));omega
   ·exact h5 t' v' hi x hx
def UnderL (l:List (Nat×Blk)) (K:Key):Prop:=∃ id b,(id,b)∈l∧UnderR (id,[]) 0 K
def HoleL (ren:Ren) (L0 L:AV→Value→Prop) (b:Blk):Prop:=∀ x∈boxHs b,∀ j u,look ren x.id j→L0 (.own j) u→L (.own x.id) u
theorem holesLe_find {ren:Ren} {r c:Nat}:∀ {hs hs2:List Hole},holesLe ren hs hs2→(findHole hs r c=none∧findHole hs2 r c=none)∨∃ x∈hs2,∃ j,findHole hs r c=some j∧findHole hs2 r c=some x.id∧look ren x.id j
 | [],[],_=> .inl ⟨rfl,rfl⟩
 | [],_::_,h=>(show False from h).elim
 | _::_,[],h=>(show False from h).elim
 | x::hs,y::hs2,h=>by
  obtain ⟨⟨h1,h2⟩,h3,h4⟩:=h
  rw[findHole_cons,findHole_cons,h1,h2]
  by_cases e:y.row=r∧y.cell=c
  ·rw[if_pos e,if_pos e]
   refine .inr ⟨y,List.mem_cons_self ..,x.id,rfl,rfl,?_⟩
   split at h3
   ·rename_i p j hf
    subst h3
    exact ⟨p,hf⟩
   ·exact h3.elim
  ·rw[if_neg e,if_neg e]
   rcases holesLe_find (r:=r) (c:=c) h4 with h5 | ⟨z,hz,h5⟩
   ·exact .inl h5
   ·exact .inr ⟨z,List.mem_cons_of_mem _ hz,h5⟩
theorem holesLe_row {ren:Ren}:∀ {hs hs2:List Hole},holesLe ren hs hs2→(∀ x∈hs,x.row=0)→∀ x∈hs2,x.row=0
 | [],[],_,_=>fun x hx=>by simp at hx
 | [],_::_,h,_=>(show False from h).elim
 | _::_,[],h,_=>(show False from h).elim
 | x::hs,y::hs2,h,h0=>by
  obtain ⟨⟨h1,h2⟩,h3,h4⟩:=h
  intro z hz
  rcases List.mem_cons.1 hz with e | hz
  ·rw[e,←h1];exact h0 x (List.mem_cons_self ..)
  ·exact holesLe_row h4 (fun x hx=>h0 x (List.mem_cons_of_mem _ hx)) z hz
theorem closesH_sound (R:Rel w κ m n s h a) {ren:Ren} {N:Nat}:∀ {l:List (Nat×Blk)} {h1:Heap},(∀ id b,(id,b)∈l→id < N)→Sub h1 h→closesH h1 ren l→
  ∃ T:TL,∃ h2,Cl h1 h2 [] [] N T [] []∧(∀ x∈T,∀ p,∃ b,((x.2 p).1,b)∈l)∧∀ κc,Spec κ κc T [] []→∃ κ',Fz κc κ' (UnderL l)∧
   ∀ id b,(id,b)∈l→∃ j,look ren id j∧(∀ x,κ x=some (.key (j,[]))→κ' x=some (.key (id,[])))∧h1 j≠none∧shp (h j)=shp (some b)∧∀ L m',m' id=m j→HoleL ren (liveV w κ m n h) L b→relBlk w κ' m' L id b
 | [],h1,hN,hs,hk=>⟨[],h1,Cl.refl _ _ _,fun x hx=>by simp at hx,fun κc S=>⟨κc,Fz.refl _ _,fun id b hb=>by simp at hb⟩⟩
 | (id,b)::l,h1,hN,hs,hk=>by
  simp only[closesH] at hk
  split at hk
  ·rename_i p j hf
   have hlook:look ren id j:=⟨p,hf⟩
   have hidN:id < N:=hN id b (List.mem_cons_self ..)
   have hN':∀ id b,(id,b)∈l→id < N:=fun id b hb=>hN id b (List.mem_cons_of_mem _ hb)
   have fin:∀ (B:Blk) (rs rs2:List (List AV)) (hs2:List Hole) (k:Nat),h1 j=some B→B= .rows k rs hs2∨(∃ row,B= .box row hs2∧rs=[row]∧k=row.length)→
     (b= .rows k rs2 []∧(∃ rs0,B= .rows k rs0 hs2))∨(∃ row2,b= .box row2 []∧rs2=[row2]∧∃ row,B= .box row hs2)→
     closeHoles 40 true (upd h1 j none) [] rs hs2 (fun rs h _=>SimRows rs rs2∧closesH h ren l)→
     ∃ T:TL,∃ h2,Cl h1 h2 [] [] N T [] []∧(∀ x∈T,∀ p,∃ b',((x.2 p).1,b')∈(id,b)::l)∧∀ κc,Spec κ κc T [] []→∃ κ',Fz κc κ' (UnderL ((id,b)::l))∧
      ∀ id' b',(id',b')∈(id,b)::l→∃ j,look ren id' j∧(∀ x,κ x=some (.key (j,[]))→κ' x=some (.key (id',[])))∧h1 j≠none∧shp (h j)=shp (some b')∧∀ L m',m' id'=m j→HoleL ren (liveV w κ m n h) L b'→relBlk w κ' m' L id' b':=by
    intro B rs rs2 hs2 k hj hB hb hk
    have hj0:=hs.some hj
    obtain ⟨rs',h2,T1,⟨hsim,hk⟩,a1,a2,a3,a4,a5⟩:=closeHoles_mv R id 40 (upd h1 j none) [] rs hs2 j (fun x=>(id,[x])) _ (fun _=>rfl) ((sub_upd _ _).trans hs) hk
    have c1:Cl h1 h2 [] [] N ((j,fun p=>(id,p))::T1) [] []:=clMv (J:=id) hj hidN (fun p=>rfl) a1 a2 a3
    obtain ⟨T2,h3,c2,t2,ih⟩:=closesH_sound R hN' (a1.trans ((sub_upd _ _).trans hs)) hk
    refine ⟨_,h3,c1.trans c2,fun x hx p=>?_,fun κc S=>?_⟩
    ·rcases List.mem_append.1 hx with hx | hx
     ·rcases List.mem_cons.1 hx with e | hx
      ·subst e;exact ⟨b,List.mem_cons_self ..⟩
      ·exact ⟨b,by rw[(a2 x hx).2.2 p];exact List.mem_cons_self ..⟩
     ·obtain ⟨b',hb'⟩:=t2 x hx p
      exact ⟨b',List.mem_cons_of_mem _ hb'⟩
    ·have SL:=Spec.left (T1:=(j,fun p=>(id,p))::T1) (T2:=T2) (F1:=[]) (F2:=[]) (V1:=[]) (V2:=[]) S
     have SR:=Spec.right (T1:=(j,fun p=>(id,p))::T1) (T2:=T2) (F1:=[]) (F2:=[]) (V1:=[]) (V2:=[]) S
     obtain ⟨κ2,x2,ih2⟩:=ih κc SR
     have hj2:h2 j=none:=by
      rcases a1 j with e | e
      ·exact e
      ·rw[e];exact upd_eq _ _ _
     have hne:∀ id' b',(id',b')∈l→id'≠id:=fun id' b' hb' e=>by
      obtain ⟨j',g1,_,g2,_⟩:=ih2 id' b' hb'
      rw[e] at g1
      have:=look_fun g1 hlook
      rw[this] at g2
      exact g2 hj2
     have hnu:∀ K:Key,K.1=id→¬ UnderL l K:=fun K e hu=>by
      obtain ⟨id',b',h4,_,_,_,_,h5⟩:=hu
      have h5:=congrArg Prod.fst h5
      exact hne id' b' h4 (h5.symm.trans e)
     have hTj:∀ b p,κ b=some (.key (j,p))→κc b=some (.key (id,p)):=SL.tk (j,fun p=>(id,p)) (List.mem_cons_self ..)
     have hcells:=a5 κc SL.imm (fun x hx=>SL.tk x (List.mem_cons_of_mem _ hx)) (fun i c q b hb=>by simpa using hTj b _ hb)
     have hrows:∀ {C:Array Value} {off:Nat},relHRs w κ (liveV w κ m n h) j hs2 k 0 rs C off→∃ κ3,Fz κ2 κ3 (UnderR (id,[]) 0)∧relRs w κ3 (some (id,[])) k 0 rs2 C off:=fun {C off} hr=>by
      have h6:=mvRows_rel (lo:=0) (len:=rs'.length) (root:=(id,[])) (by intro i j;simp) hcells a4 hr
      simp only[List.drop_zero,List.take_length,Nat.zero_mul,Nat.add_zero] at h6
      have h7:relRs w κ2 (some (id,[])) k 0 rs' C off:=relRs_move (x2.imm w) rs' _ _ _ _ _ _ (x2.keyMap w fun q=>hnu _ rfl) h6
      exact SimRows_sound w hsim κ2 (id,[]) k 0 C off h7
     have hroot:∀ κ3,Fz κ2 κ3 (UnderR (id,[]) 0)→∀ x,κ x=some (.key (j,[]))→κ3 x=some (.key (id,[])):=fun κ3 x3 x hx=>by
      have:=hTj x [] hx
      have:=x2.key this (hnu _ rfl)
      refine x3.key this fun hu=>?_
      obtain ⟨_,_,_,_,e⟩:=hu
      have e:=congrArg (fun z:Key=>z.2.length) e
      simp at e
     have done:∀ κ3,Fz κ2 κ3 (UnderR (id,[]) 0)→(∀ L m',m' id=m j→HoleL ren (liveV w κ m n h) L b→relBlk w κ3 m' L id b)→shp (h j)=shp (some b)→∃ κ',Fz κc κ' (UnderL ((id,b)::l))∧
       ∀ id' b',(id',b')∈(id,b)::l→∃ j,look ren id' j∧(∀ x,κ x=some (.key (j,[]))→κ' x=some (.key (id',[])))∧h1 j≠none∧shp (h j)=shp (some b')∧∀ L m',m' id'=m j→HoleL ren (liveV w κ m n h) L b'→relBlk w κ' m' L id' b':=fun κ3 x3 hrel hshp=>by
      refine ⟨κ3,(x2.mono fun K ⟨i,b',h4,h5⟩=>⟨i,b',List.mem_cons_of_mem _ h4,h5⟩).trans (x3.mono fun K hK=>⟨id,b,List.mem_cons_self ..,hK⟩),fun id' b' hb'=>?_⟩
      rcases List.mem_cons.1 hb' with e | hb'
      ·injection e with e1 e2
       subst e1;subst e2
       exact ⟨j,hlook,hroot κ3 x3,by rw[hj];simp,hshp,hrel⟩
      ·obtain ⟨j',g1,g2,g3,g4,g5⟩:=ih2 id' b' hb'
       have hnu2:∀ K:Key,K.1=id'→¬ UnderR (id,[]) 0 K:=fun K e hu=>by
        obtain ⟨_,_,_,_,h5⟩:=hu
        have h5:=congrArg Prod.fst h5
        exact hne id' b' hb' (e.symm.trans h5)
       refine ⟨j',g1,fun x hx=>x3.key (g2 x hx) (hnu2 _ rfl),fun e=>?_,g4,fun L m' hm hL=>relBlk_move (x3.imm w) (fun _ _ h=>h) (x3.keyMap w fun q=>hnu2 _ rfl) rfl (g5 L m' hm hL)⟩
       rcases c1.sub j' with e2 | e2
       ·exact g3 e2
       ·exact g3 (by rw[e2];exact e)
     have hlen:=len_of_map a4
     have hlen2:=SimRows.len hsim
     rcases hb with ⟨rfl,rs0,hB0⟩ | ⟨row2,rfl,rfl,row,hB0⟩
     ·subst hB0
      have hrs:rs0=rs:=by
       rcases hB with hB | ⟨row,hB,_⟩
       ·injection hB
       ·cases hB
      subst hrs
      have hshp:shp (h j)=shp (some (.rows k rs2 [])):=by rw[hj0];simp[shp,←hlen,←hlen2]
      rcases (R.blk j _ hj0).2 with e | ⟨hsp,C,t,fr,hw,hfr,hκ,hr⟩
      ·refine done κ2 (Fz.refl _ _) (fun L m' hm _=> .inl ?_) hshp
       subst e
       exact List.eq_nil_of_length_eq_zero (by rw[←hlen2,hlen];rfl)
      ·obtain ⟨κ3,x3,h8⟩:=hrows hr
       refine done κ3 x3 (fun L m' hm _=> .inr ⟨by rw[hm];exact hsp,C,t,fr,by rw[hm];exact hw,hfr,by rw[hm];exact hroot κ3 x3 _ hκ,?_⟩) hshp
       rw[hm]
       exact relHRs_plain (fun b hb=>⟨hb,rfl⟩) ⟨_,rfl,fun q b hb=>⟨hb,rfl⟩⟩ h8
     ·subst hB0
      rcases hB with hB | ⟨row',hB,hrs,hk'⟩
      ·cases hB
      ·injection hB with hB1 hB2
       subst hB1
       subst hrs
       obtain ⟨_,h00,hsp,C,t,fr,hw,hfr,hκ,hr⟩:=R.blk j _ hj0
       obtain ⟨κ3,x3,h8⟩:=hrows (C:=C) (off:=(m j).off) ⟨hk'.symm,hr,trivial⟩
       refine done κ3 x3 (fun L m' hm _=>⟨fun y hy=>by simp at hy,by rw[hm];exact hsp,C,t,fr,by rw[hm];exact hw,hfr,by rw[hm];exact hroot κ3 x3 _ hκ,?_⟩) (by rw[hj0];rfl)
       rw[hm]
       exact relHRow_plain (fun b hb=>⟨hb,rfl⟩) ⟨_,rfl,fun q b hb=>⟨hb,rfl⟩⟩ h8.2.1
   split at hk
   ·rename_i k rs hs2 hj
    split at hk
    ·rename_i k2 rs2
     have hk2:k=k2:=by
      obtain ⟨_,_,_,hk,_⟩:=closeHoles_ext _ hk
      exact hk.1
     subst hk2
     exact fin _ rs rs2 hs2 k hj (.inl rfl) (.inl ⟨rfl,rs,rfl⟩) (closeHoles_mono (fun _ _ _ hk=>hk.2) hk)
    ·exact hk.elim
   ·rename_i row hs2 hj
    split at hk
    ·rename_i row2
     exact fin _ [row] [row2] hs2 row.length hj (.inr ⟨row,rfl,rfl,rfl⟩) (.inr ⟨row2,rfl,rfl,row,rfl⟩) hk
    ·rename_i row2 x hsT
     obtain ⟨hrow,hle,hk⟩:=hk
     subst hrow
     have hj0:=hs.some hj
     obtain ⟨rs',h2,T1,⟨hrs,hk⟩,a1,a2,a3,a4,a5⟩:=closeHoles_mv R id 40 (upd h1 j none) [] [row] [] j (fun x=>(id,[x])) (fun rs h _=>rs=[row]∧closesH h ren l) (fun _=>rfl) ((sub_upd _ _).trans hs) (show closeHoles 40 true (upd h1 j none) [] [row] [] _ from ⟨rfl,hk⟩)
     subst hrs
     have c1:Cl h1 h2 [] [] N ((j,fun p=>(id,p))::T1) [] []:=clMv (J:=id) hj hidN (fun p=>rfl) a1 a2 a3
     obtain ⟨T2,h3,c2,t2,ih⟩:=closesH_sound R hN' (a1.trans ((sub_upd _ _).trans hs)) hk
     refine ⟨_,h3,c1.trans c2,fun x hx p=>?_,fun κc S=>?_⟩
     ·rcases List.mem_append.1 hx with hx | hx
      ·rcases List.mem_cons.1 hx with e | hx
       ·subst e;exact ⟨_,List.mem_cons_self ..⟩
       ·exact ⟨_,by rw[(a2 _ hx).2.2 p];exact List.mem_cons_self ..⟩
      ·obtain ⟨b',hb'⟩:=t2 _ hx p
       exact ⟨b',List.mem_cons_of_mem _ hb'⟩
     ·have SL:=Spec.left (T1:=(j,fun p=>(id,p))::T1) (T2:=T2) (F1:=[]) (F2:=[]) (V1:=[]) (V2:=[]) S
      have SR:=Spec.right (T1:=(j,fun p=>(id,p))::T1) (T2:=T2) (F1:=[]) (F2:=[]) (V1:=[]) (V2:=[]) S
      obtain ⟨κ2,x2,ih2⟩:=ih κc SR
      have hj2:h2 j=none:=by
       rcases a1 j with e | e
       ·exact e
       ·rw[e];exact upd_eq _ _ _
      have hne:∀ id' b',(id',b')∈l→id'≠id:=fun id' b' hb' e=>by
       obtain ⟨j',g1,_,g2,_⟩:=ih2 id' b' hb'
       rw[e] at g1
       have:=look_fun g1 hlook
       rw[this] at g2
       exact g2 hj2
      have hnu:∀ K:Key,K.1=id→¬ UnderL l K:=fun K e hu=>by
       obtain ⟨id',b',h4,_,_,_,_,h5⟩:=hu
       have h5:=congrArg Prod.fst h5
       exact hne id' b' h4 (h5.symm.trans e)
      have hTj:∀ b p,κ b=some (.key (j,p))→κc b=some (.key (id,p)):=SL.tk (j,fun p=>(id,p)) (List.mem_cons_self ..)
      have hcells:=a5 κc SL.imm (fun x hx=>SL.tk x (List.mem_cons_of_mem _ hx)) (fun i c q b hb=>by simpa using hTj b _ hb)
      have hroot:∀ x,κ x=some (.key (j,[]))→κ2 x=some (.key (id,[])):=fun x hx=>x2.key (hTj x [] hx) (hnu _ rfl)
      refine ⟨κ2,x2.mono fun K ⟨i,b',h4,h5⟩=>⟨i,b',List.mem_cons_of_mem _ h4,h5⟩,fun id' b' hb'=>?_⟩
      rcases List.mem_cons.1 hb' with e | hb'
      ·injection e with e1 e2
       subst e1;subst e2
       refine ⟨j,hlook,hroot,by rw[hj];simp,by rw[hj0];rfl,fun L m' hm hL=>?_⟩
       obtain ⟨h00,hsp,C,t,fr,hw,hfr,hκ,hr⟩:=(R.blk j _ hj0).2
       refine ⟨holesLe_row hle h00,by rw[hm];exact hsp,C,t,fr,by rw[hm];exact hw,hfr,by rw[hm];exact hroot _ hκ,?_⟩
       rw[hm]
       refine relHRow_mk fun c v hv=>?_
       obtain ⟨u,hu,hc⟩:=relHRow_get hr hv
       refine ⟨u,hu,?_⟩
       rw[Nat.zero_add] at hc⊢
       unfold relCell at hc⊢
       rcases holesLe_find (r:=0) (c:=c) hle with ⟨f1,f2⟩ | ⟨z,hz,jz,f1,f2,f3⟩
       ·rw[f1] at hc
        rw[f2]
        obtain ⟨v0,hv0,hrel⟩:=hcells 0 c v (by unfold cellRs;simpa using hv)
        have e0:v0=v:=by
         unfold cellRs at hv0
         have:row[c]?=some v0:=by simpa using hv0
         rw[hv] at this
         injection this with this
         exact this.symm
        subst e0
        have h9:=hrel u (show relCell w κ (liveV w κ m n h) j [] 0 c v0 u from hc)
        exact relV_move (x2.imm w) (fun _ _ h=>h) v0 _ _ u (x2.keyMap w fun q=>hnu _ rfl) h9
       ·rw[f1] at hc
        rw[f2]
        exact hL z hz jz u f3 hc
      ·obtain ⟨j',g1,g2,g3,g4,g5⟩:=ih2 id' b' hb'
       refine ⟨j',g1,g2,fun e=>?_,g4,g5⟩
       rcases c1.sub j' with e2 | e2
       ·exact g3 e2
       ·exact g3 (by rw[e2];exact e)
    ·exact hk.elim
   ·exact hk.elim
  ·exact hk.elim
theorem slots_mem {t:Nat} {v:AV}:∀ {l:List (Nat×AV)},slots l t=some v→(t,v)∈l
 | [],h=>by simp[slots] at h
 | (i,x)::l,h=>by
  simp only[slots] at h
  cases hb:Nat.beq t i with
  | true=>
   rw[hb] at h
   have:=Nat.eq_of_beq_eq_true hb
   subst this
   injection h with h
   subst h
   exact List.mem_cons_self ..
  | false=>rw[hb] at h;exact List.mem_cons_of_mem _ (slots_mem h)
theorem heap_mem {t:Nat} {v:Blk}:∀ {l:List (Nat×Blk)},heap l t=some v→(t,v)∈l
 | [],h=>by simp[heap] at h
 | (i,x)::l,h=>by
  simp only[heap] at h
  cases hb:Nat.beq t i with
  | true=>
   rw[hb] at h
   have:=Nat.eq_of_beq_eq_true hb
   subst this
   injection h with h
   subst h
   exact List.mem_cons_self ..
  | false=>rw[hb] at h;exact List.mem_cons_of_mem _ (heap_mem h)
open Classical in
theorem Weak_sound (R:Rel w κ m n s h a) {l:Loose} (hk:Weak s h l):∃ κ' m',Rel w κ' m' (nextId l) (slots l.s) (heap l.h) a∧Stp κ w κ' w:=by
 obtain ⟨ren,hk,_,hsl⟩:=slotsLe_ext hk
 have hH:∀ id b,(id,b)∈l.h→id < nextId l:=fun id b hb=>Nat.lt_of_lt_of_le ((aboveH_le (l:=l.h) (n:=0)).2.1 id b hb) (aboveS_le (l:=l.s)).1
 have hS:∀ t v,(t,v)∈l.s→∀ i∈idsOf v,i < nextId l:=(aboveS_le (l:=l.s) (n:=aboveH 0 l.h)).2
 obtain ⟨T,h2,CL,hT,hrel⟩:=closesH_sound R hH (Sub.refl h) hk
 have SP:Spec κ (callG κ T ([]++[])) T [] []:=spec_callG CL.nodup (fun i hi=>by simp at hi) (fun i hi=>by simp at hi)
 obtain ⟨κ',x,hb⟩:=hrel _ SP
 let m':Nat→Addr:=fun i=>if hx:∃ j,look ren i j then m (Classical.choose hx) else default
 have hm:∀ i j,look ren i j→m' i=m j:=fun i j hl=>by
  have hx:∃ j,look ren i j:=⟨j,hl⟩
  simp only[m',dif_pos hx]
  rw[look_fun (Classical.choose_spec hx) hl]
 have hI:ImmMap w w κ κ':=fun b hb=>x.imm w b (SP.imm b hb)
 have hself:∀ i j,look ren i j→∀ b,heap l.h i=some b→(∀ y,κ y=some (.key (j,[]))→κ' y=some (.key (i,[])))∧shp (h j)=shp (some b):=fun i j hl b hib=>by
  obtain ⟨j',g1,g2,g3,g4,g5⟩:=hb i b (heap_mem hib)
  have:=look_fun g1 hl
  subst this
  exact ⟨g2,g4⟩
 have M:NameMap (look ren) (nextId l) (liveV w κ m n h) (liveV w κ' m' (nextId l) (heap l.h)):=by
  refine ⟨fun i j u hi hl hv=>?_,fun i j o len u hi hl hv=>?_,fun i j r c u hi hl hv=>?_⟩
  ·obtain ⟨_,hs,hv⟩:=hv
   refine ⟨hi,hs,?_⟩
   cases e:heap l.h i with
   | none=>trivial
   | some b=>
    obtain ⟨g1,g2⟩:=hself i j hl b e
    rw[←g2]
    split at hv
    ·rename_i k len hsh
     obtain ⟨A,cap,e2,hl2,hc⟩:=hv
     refine ⟨A,cap,e2,hl2,hc.imp id fun ⟨h5,h6⟩=>?_⟩
     rw[hm i j hl]
     obtain ⟨p1,C,t,fr,p2,p3,p4,p5⟩:=h6
     exact ⟨h5,p1,C,t,fr,p2,p3,g1 _ p4,p5⟩
    ·trivial
  ·obtain ⟨_,hs,hv⟩:=hv
   refine ⟨hi,hs,?_⟩
   cases e:heap l.h i with
   | none=>trivial
   | some b=>
    obtain ⟨g1,g2⟩:=hself i j hl b e
    rw[←g2]
    split at hv
    ·rename_i k len' hsh
     obtain ⟨ho,A,cap,e2,hl2,hc⟩:=hv
     refine ⟨ho,A,cap,e2,hl2,hc.imp id fun ⟨h5,h6⟩=>?_⟩
     rw[hm i j hl]
     obtain ⟨p1,C,t,fr,p2,p3,p4,p5⟩:=h6
     exact ⟨h5,p1,C,t,fr,p2,p3,g1 _ p4,p5⟩
    ·trivial
  ·obtain ⟨_,hs,hv⟩:=hv
   refine ⟨hi,hs,?_⟩
   cases e:heap l.h i with
   | none=>trivial
   | some b=>
    obtain ⟨g1,g2⟩:=hself i j hl b e
    rw[←g2,hm i j hl]
    exact hv
 have hckey:∀ b K,callG κ T ([]++[]) b=some (.key K)→∃ b',(K.1,b')∈l.h:=fun b K hb=>by
  unfold callG at hb
  split at hb
  ·rename_i K0 hK0
   split at hb
   ·rename_i y hy
    injection hb with hb
    injection hb with hb
    have:=hT y (List.mem_of_find?_eq_some hy) K0.2
    rwa [hb] at this
   ·split at hb<;>cases hb
  ·rename_i hne
   exact absurd hb (hne _)
 refine ⟨κ',m',⟨fun t v ht=>?_,fun id b hib=>?_,fun b g hg=>?_,fun b id p hp=>?_⟩,rfl,rfl,rfl,Nat.le_refl _,fun _ _ _=>rfl,fun b hb=>(hI b hb).1,fun b hb h0=>?_,fun _ C _ _ h=>⟨C,h,rfl⟩⟩
 ·obtain ⟨y,hy,hr⟩:=hsl t v (slots_mem ht)
  obtain ⟨r1,r2⟩:=R.slot t y hy
  exact ⟨r1,hr.rel hI M (hS t v (slots_mem ht)) (thaw_rel r2)⟩
 ·obtain ⟨j',g1,g2,g3,g4,g5⟩:=hb id b (heap_mem hib)
  exact ⟨hH id b (heap_mem hib),g5 _ m' (hm id j' g1) fun x hx j u hl hv=>M.1 x.id j u (Nat.lt_of_lt_of_le ((aboveH_le (l:=l.h) (n:=0)).2.2 id b (heap_mem hib) x hx) (aboveS_le (l:=l.s)).1) hl hv⟩
 ·rcases x b with e | ⟨_,K,_,e⟩
  ·rw[e] at hg
   cases e2:κ b with
   | none=>simp[callG,e2] at hg
   | some g'=>exact R.low b g' e2
  ·cases e2:κ b with
   | none=>simp[callG,e2] at e
   | some g'=>exact R.low b g' e2
 ·rcases x b with e | ⟨e,_⟩
  ·rw[e] at hp
   obtain ⟨b',hb'⟩:=hckey b _ hp
   exact hH id b' hb'
  ·rw[e] at hp;cases hp
 ·rcases x b with e | ⟨_,K,_,e⟩
  ·rw[e];simp[callG,h0]
  ·simp[callG,h0] at e
end
end Go.Proofs.VI
end
section
set_option linter.unusedVariables false
set_option linter.unusedSimpArgs false
namespace Go.Proofs.VI
open Go
section
variable {P:Program} {w w' w0:World} {κ κ' κ0 κ3 κc:Gh} {m m':Nat→Addr} {n n' N:Nat} {M:Fm} {s s':Slots} {h h':Heap} {a:Act} {L L':AV→Value→Prop} {tt:TypeId→Option TI} {C:FuncId→List AV→AV→List (Option AV)→Prop}
def dstOk (M:Nat) (J:List Nat):List Oper→Bool
 | []=>true
 | o::r=>(match o.dst with | some d=>Nat.blt d M&&!mem d J | none=>true)&&dstOk M J r
def codeOk (M:Nat) (J:List Nat):Code→Bool
 | .region _ ops _=>dstOk M J ops.toList
 | .seq a b=>codeOk M J a&&codeOk M J b
 | .cond _ a b=>codeOk M J a&&codeOk M J b
 | .block _ c=>codeOk M J c
 | .loop c=>codeOk M J c
 | _=>true
theorem dstOk_at {Mn:Nat} {J:List Nat} (hM:Mn≤M.size) (hJ:∀ j,M.J j→j∈J):∀ {l:List Oper},dstOk Mn J l=true→∀ o∈l,∀ d,o.dst=some d→M.ok d
 | [],_,o,ho=>by simp at ho
 | x::l,h,o,ho=>fun d hd=>by
  simp only[dstOk,Bool.and_eq_true] at h
  rcases List.mem_cons.1 ho with e | ho
  ·subst e
   have h1:=h.1
   rw[hd] at h1
   simp only[Bool.and_eq_true,Bool.not_eq_true'] at h1
   refine ⟨Nat.lt_of_lt_of_le (bltT.1 h1.1) hM,fun hj=>?_⟩
   rw[mem_iff.2 (hJ d hj)] at h1
   cases h1.2
  ·exact dstOk_at hM hJ h.2 o ho d hd
def UpX (Q:Nat→Ex→Slots→Heap→Prop) (M:Fm) (κ0:Gh) (w0:World) (e:Exit) (a:Act) (w:World):Prop:=match e with
 | .normal=>Up (fun n s h=>Q n .normal s h) M κ0 w0 a w
 | .exit i=>Up (fun n s h=>Q n (.exit i) s h) M κ0 w0 a w
 | .ret=>Up (fun n s h=>Q n .ret s h) M κ0 w0 a w
 | _=>False
theorem forceNat_eq {n:Nat} {K:Nat→Prop} (h:forceNat n K):K n:=by
 unfold forceNat at h
 split at h<;>exact h
def outsJ (j:Nat):List (Option AV)→List Nat
 | []=>[]
 | some _::r=>j::outsJ (j+1) r
 | none::r=>outsJ (j+1) r
theorem outsJ_mem:∀ {outs:List (Option AV)} {j i:Nat} {o:AV},outs[i]?=some (some o)→j+i∈outsJ j outs
 | [],j,i,o,h=>by simp at h
 | some x::outs,j,0,o,h=>List.mem_cons_self ..
 | none::outs,j,0,o,h=>by simp at h
 | some x::outs,j,i+1,o,h=>by
  have:=outsJ_mem (j:=j+1) (i:=i) (o:=o) (outs:=outs) (by simpa using h)
  rw[show j+(i+1)=j+1+i by omega]
  exact List.mem_cons_of_mem _ this
 | none::outs,j,i+1,o,h=>by
  have:=outsJ_mem (j:=j+1) (i:=i) (o:=o) (outs:=outs) (by simpa using h)
  rw[show j+(i+1)=j+1+i by omega]
  exact this
theorem load_run (T:TOk P tt) {o:Oper} {t:TypeId} {x:Operand} {K:Bool→Nat→AV→Heap→Prop} (R:Rel w κ m n s h a) (ho:o.op= .load t x) {i:TI} (ht:tt t=some i) {v:AV}
  (hx:relV w κ (liveV w κ m n h) none v (a.eval x)) (hk:load n i v h K):∃ u,(execOp a.eval o).run P w= .ok (.value u) w:=by
 cases v<;>simp only[load] at hk
 case rp row c=>
  obtain ⟨b,off,C,t0,fr,hp,hb,hκ,hr⟩:=hx
  obtain ⟨cs,hk,hl,hg⟩:=takeN_sound hk
  obtain ⟨us,h1,h2,h3⟩:=relL_row hr
  let vs:List Value:=(us.drop c).take i.size
  have hcs:i.size=0∨c+i.size≤row.length:=by
   cases hz:i.size with
   | zero=>exact .inl rfl
   | succ k=>
    right
    have:cs[k]?=some cs[k]:=List.getElem?_eq_getElem (by omega)
    have:=(List.getElem?_eq_some_iff.1 (hg k _ this)).1
    omega
  have hlen:vs.length=i.size:=by
   simp[vs,h1]
   omega
  refine ⟨_,run_load_op T ho ht hp hlen fun j u hj=>?_⟩
  have hj2:j < i.size:=by
   have:=(List.getElem?_eq_some_iff.1 hj).1
   simp[vs] at this;omega
  simp only[vs,List.getElem?_take] at hj
  rw[if_pos hj2,List.getElem?_drop] at hj
  rw[cell_of_heap hb]
  rw[show off+c+j=off+(c+j) by omega]
  exact h2 (c+j) u hj
 case ptr id r c=>
  have own:∀ {B:Blk} {r c:Nat} {row:List AV} {F:List AV→Prop},h id=some B→(∀ j v,row[j]?=some v→cellAt B r j=some v)→a.eval x= .pointer (some ⟨(m id).block,(m id).off+cellOff B r c,none⟩)→takeN row c i.size F→∃ u,(execOp a.eval o).run P w= .ok (.value u) w:=by
   intro B r c row F hb hrow hx hk
   obtain ⟨cs,hk,hl,hg⟩:=takeN_sound hk
   obtain ⟨hid,hB⟩:=R.blk id B hb
   have hcell:∀ j v,cs[j]?=some v→cellAt B r (c+j)=some v:=fun j v hj=>hrow _ _ (hg j v hj)
   have hoff:∀ j,cellOff B r (c+j)=cellOff B r c+j:=fun j=>by cases B<;>simp[cellOff];omega
   obtain ⟨vs,hvl,hvc⟩:=cells_exist (w:=w) (b:=(m id).block) (o:=(m id).off+cellOff B r c) cs.length fun j hj=>by
    obtain ⟨u,hu,_⟩:=relBlk_cell hB (hcell j cs[j] (List.getElem?_eq_getElem hj))
    rw[hoff] at hu
    exact ⟨u,by rw[Nat.add_assoc];exact hu⟩
   exact ⟨_,run_load_op T ho ht hx (by omega) hvc⟩
  split at hk
  ·rename_i row hs hid
   exact own (r:=0) (row:=row) hid (fun j v hj=>by simpa [cellAt] using hj) (by simpa [cellOff] using ptr_addr hx hid) hk
  ·rename_i k rs hs hid
   obtain ⟨row,hrow,hk⟩:=hk
   exact own (r:=r) (row:=row) hid (fun j v hj=>by simp[cellAt,hrow,hj]) (ptr_addr hx hid) hk
  ·exact hk.elim
theorem results_sound (T:TOk P tt):∀ {l:List ResultVar} {n:Nat} {h:Heap} {κ:Gh} {m:Nat→Addr} {K:List AV→Heap→Prop},Rel w κ m n s h a→resultsV tt l n s h K→∃ vs us n' h' κ' m',K vs h'∧Rel w κ' m' n' s h' a∧Stp κ w κ' w∧(∀ v u,liveV w κ m n h v u→liveV w κ' m' n' h' v u)∧(∀ c,relL w κ' (liveV w κ' m' n' h') none c vs us)∧vs.length=l.length∧
  (List.mapM (m:=Sem) (fun (x:ResultVar)=>match x with
   | .tmp t=>pure (a.tmps.getD t undef)
   | .cell b t=>do loadVar t (←asAddr (a.tmps.getD b undef))) l).run P w=Result.ok us w
 | [],n,h,κ,m,K,R,hk=>⟨[],[],n,h,κ,m,hk,R,Stp.refl _ _,fun _ _ h=>h,fun c=>rfl,rfl,by simp⟩
 | .tmp t::l,n,h,κ,m,K,R,hk=>by
  obtain ⟨v,hk,hv⟩:=opv_sound R (show opv s (.tmp t) _ from hk)
  obtain ⟨vs,us,n',h',κ',m',hk,R',ST,hL,hr,hl,hrun⟩:=results_sound T R hk
  refine ⟨v::vs,a.tmps.getD t undef::us,n',h',κ',m',hk,R',ST,hL,fun c=>⟨_,_,rfl,relV_move (ST.immMap R.low) hL v _ _ _ (by simp[kid,KeyMap]) hv,hr _⟩,by simp[hl],?_⟩
  rw[List.mapM_cons]
  simp only[Sem.run_bind,Sem.run_pure,Result.andThen_ok,hrun]
 | .cell b t::l,n,h,κ,m,K,R,hk=>by
  obtain ⟨i,ht,hk⟩:=ty_sound (show ty tt t _ from hk)
  cases hsb:s b with
  | none=>simp only[opv,hsb] at hk
  | some vb=>
   obtain ⟨hlt,hrb⟩:=R.slot b vb hsb
   simp only[opv,hsb] at hk
   let o:Oper:={dst:=some b,op:= .load t (.tmp b),type:=t,pos:= "",after:=#[],guard:=none}
   have hok:=ok_load T R (o:=o) rfl ht (v:=vb) hrb hk
   obtain ⟨u,hu⟩:=load_run T R (o:=o) rfl ht (v:=vb) hrb hk
   unfold OpOk Oper.wp at hok
   rw[hu] at hok
   obtain ⟨f,n1,v1,h1,κ1,m1,u1,hk1,hn,hput,hv1,R1,ST1,_,_,hL1⟩:=hok
   have huu:u=u1:=by
    have:=congrArg (fun x:Act=>x.tmps.getD b undef) hput
    simpa [o,Act.put,Array.getD_eq_getD_getElem?,hlt] using this
   subst huu
   obtain ⟨vs,us,n',h',κ',m',hk,R',ST,hL,hr,hl,hrun⟩:=results_sound T R1 hk1
   refine ⟨v1::vs,u::us,n',h',κ',m',hk,R',ST1.trans ST,fun v u hv=>hL v u (hL1 v u hv),fun c=>⟨_,_,rfl,relV_move (ST.immMap R1.low) hL v1 _ _ _ (by simp[kid,KeyMap]) hv1,hr _⟩,by simp[hl],?_⟩
   have hload:(loadVar t (match a.tmps.getD b undef with | .pointer (some x)=>x | _=>default)).run P w= .ok u w∧∃ x,a.tmps.getD b undef= .pointer (some x):=by
    have hev:a.eval (.tmp b)=a.tmps.getD b undef:=rfl
    unfold execOp at hu
    simp only[o,hev] at hu
    cases hp:a.tmps.getD b undef<;>simp only[hp] at hu<;>try (simp[Instr.loadAt,Instr.sureAddr,stuck] at hu;done)
    rename_i ad
    cases ad with
    | none=>simp[Instr.loadAt,Instr.sureAddr,stuck] at hu
    | some x=>
     simp only[Instr.loadAt,Instr.sureAddr,Sem.run_bind,Sem.run_pure,Result.andThen_ok] at hu
     refine ⟨?_,x,rfl⟩
     cases hr2:(loadVar t x).run P w with
     | ok u2 w2=>
      rw[hr2] at hu
      simp only[Result.andThen_ok] at hu
      injection hu with hu hu'
      injection hu with hu
      rw[hu,hu']
     | halt x2 w2=>rw[hr2] at hu;cases hu
   obtain ⟨hload,x,hx⟩:=hload
   have ha:(asAddr (a.tmps.getD b undef)).run P w= .ok x w:=by rw[hx];rfl
   rw[hx] at hload
   simp only at hload
   rw[List.mapM_cons]
   simp only[Sem.run_bind,ha,Sem.run_pure,Result.andThen_ok,hload,hrun]
theorem number_get:∀ {l:List AV} {i t:Nat} {v:AV},slots (number i l) t=some v→i≤t∧l[t - i]?=some v
 | [],i,t,v,h=>by simp[number,slots] at h
 | x::l,i,t,v,h=>by
  simp only[number,slots] at h
  cases hb:Nat.beq t i with
  | true=>
   rw[hb] at h
   have:=Nat.eq_of_beq_eq_true hb
   subst this
   injection h with h
   subst h
   exact ⟨Nat.le_refl _,by simp⟩
  | false=>
   rw[hb] at h
   obtain ⟨h1,h2⟩:=number_get h
   refine ⟨by omega,?_⟩
   rw[show t - i=(t - (i+1))+1 by omega]
   simpa using h2
theorem relA_L {K:Key} {κ2:Gh} (hI:ImmMap w w κ κ2) (hK:∀ j p b,κ b=some (.key (j,p))→κ2 b=some (.key (K.1,K.2++(0,j)::p))):∀ {args:List AV} {j:Nat} {vals:List Value},relA w κ j args vals→relL w κ2 noL (some K) j args vals
 | [],j,vals,h=>h
 | v::args,j,vals,h=>by
  obtain ⟨u,us,rfl,h1,h2⟩:=h
  exact ⟨u,us,rfl,relV_move hI (fun _ _ h=>h) v (some (j,[])) (some (K.1,K.2++[(0,j)])) u ⟨_,rfl,fun q b hb=>⟨by
   have:=hK j q b (by simpa using hb)
   simpa using this,rfl⟩⟩ h1,relA_L hI hK h2⟩
def From (j N:Nat) (K:Key):Prop:=j≤K.1∧K.1 < N
theorem relOuts_move (hI:ImmMap w w κ κ'):∀ {outs:List (Option AV)} {us:List Value} {j:Nat},(∀ j',j≤j'→j' < j+us.length→KeyMap w w κ κ' (some (j',[])) (some (j',[])))→relOuts w κ j outs us→relOuts w κ' j outs us
 | [],us,j,hK,h=>trivial
 | o::outs,[],j,hK,h=>trivial
 | o::outs,u::us,j,hK,h=>by
  simp only[List.length_cons] at hK
  refine ⟨?_,relOuts_move hI (fun j' hj hj2=>hK j' (by omega) (by omega)) h.2⟩
  have h1:=h.1
  cases o with
  | none=>trivial
  | some o=>exact relV_move hI (fun _ _ h=>h) o _ _ u (hK j (Nat.le_refl _) (by omega)) h1
theorem Cl.lift {h1 h2:Heap} {v1 v2:List Nat} {N N':Nat} {T:TL} {F V:List Nat} (c:Cl h1 h2 v1 v2 N T F V) (hN:N≤N'):Cl h1 h2 v1 v2 N' T F V:=
 ⟨c.sub,c.vis,c.lent,fun x hx=>⟨(c.tk x hx).1,(c.tk x hx).2.1,fun p=>Nat.lt_of_lt_of_le ((c.tk x hx).2.2 p) hN⟩,c.fz,c.nodup,c.apart⟩
theorem noV {h1 h2:Heap} {T:TL} {F V:List Nat} (c:Cl h1 h2 [] [] N T F V):V=[]:=by
 cases V with
 | nil=>rfl
 | cons i V=>have:=c.lent i (List.mem_cons_self ..);simp at this
theorem outsK_sound (R:Rel w κ m n s h a) {N:Nat}:∀ {outs:List (Option AV)} {j:Nat} {us:List Value} {h1:Heap},j+us.length≤N→Sub h1 h→(∀ (i:Nat) (o:AV) (u:Value),outs[i]?=some (some o)→us[i]?=some u→a.tmps.getD (j+i) undef=u)→outsK h1 s j outs→
  ∃ T:TL,∃ F h2,Cl h1 h2 [] [] N T F []∧∀ κc,Spec κ κc T F []→∃ κ',Fz κc κ' (From j N)∧relOuts w κ' j outs us
 | [],j,us,h1,hN,hs,hv,hk=>⟨[],[],h1,Cl.refl _ _ _,fun κc S=>⟨κc,Fz.refl _ _,trivial⟩⟩
 | o::outs,j,[],h1,hN,hs,hv,hk=>⟨[],[],h1,Cl.refl _ _ _,fun κc S=>⟨κc,Fz.refl _ _,trivial⟩⟩
 | none::outs,j,u::us',h1,hN,hs,hv,hk=>by
  simp only[List.length_cons] at hN
  obtain ⟨T,F,h2,c1,ih⟩:=outsK_sound R (N:=N) (us:=us') (outs:=outs) (j:=j+1) (by omega) hs (fun i o u ho hu=>by
   have:=hv (i+1) o u (by simpa using ho) (by simpa using hu)
   rwa [show j+(i+1)=j+1+i by omega] at this) hk
  refine ⟨T,F,h2,c1,fun κc S=>?_⟩
  obtain ⟨κ',x,hr⟩:=ih κc S
  exact ⟨κ',x.mono fun K hK=>⟨by have:=hK.1;omega,hK.2⟩,trivial,hr⟩
 | some o::outs,j,u::us',h1,hN,hs,hv,hk=>by
  simp only[List.length_cons] at hN
  obtain ⟨v,hk,hrv⟩:=opv_sound R (show opv s (.tmp j) (fun v=>closeV 40 (match v with | .ptr _ _ _=> .mut | _=> .mv) h1 [] v fun o' h vis=>(match vis with | []=>Sim o' o∧outsK h s (j+1) outs | _=>False)) from hk)
  have hu:a.eval (.tmp j)=u:=hv 0 o u rfl rfl
  rw[hu] at hrv
  obtain ⟨v',h2,vis,T1,F1,V1,hk,c1,r1,_⟩:=closeV_sound R (rk:=(j,[])) (N:=N) (by show j < N;omega) hs hrv hk
  split at hk
  ·obtain ⟨hsim,hk⟩:=hk
   have:=noV c1
   subst this
   obtain ⟨T2,F2,h5,c2,ih⟩:=outsK_sound R (N:=N) (us:=us') (outs:=outs) (j:=j+1) (by omega) (c1.sub.trans hs) (fun i o u ho hu=>by
    have:=hv (i+1) o u (by simpa using ho) (by simpa using hu)
    rwa [show j+(i+1)=j+1+i by omega] at this) hk
   refine ⟨T1++T2,F1++F2,h5,c1.trans c2,fun κc S=>?_⟩
   have SL:=Spec.left (T1:=T1) (T2:=T2) (F1:=F1) (F2:=F2) (V1:=[]) (V2:=[]) S
   have SR:=Spec.right (T1:=T1) (T2:=T2) (F1:=F1) (F2:=F2) (V1:=[]) (V2:=[]) S
   obtain ⟨κ1,x1,hr⟩:=ih κc SR
   have hv1:relV w κ1 noL (some (j,[])) v' u:=relV_move (x1.imm w) (fun _ _ h=>h) v' _ _ u (x1.keyMap w fun q hS=>by have:=hS.1;simp at this;omega) (r1 κc SL)
   obtain ⟨κ2,x2,hv2⟩:=Sim_sound w hsim noL κ1 (j,[]) u hv1
   refine ⟨κ2,(x1.mono fun K hK=>⟨by have:=hK.1;omega,hK.2⟩).trans (x2.mono fun K hK=>?_),hv2,relOuts_move (x2.imm w) (fun j' hj _=>x2.keyMap w fun q hS=>?_) hr⟩
   ·obtain ⟨q,rfl⟩:=hK
    exact ⟨Nat.le_refl _,by show j < N;omega⟩
   ·obtain ⟨q',e⟩:=hS
    have e:=congrArg Prod.fst e
    simp at e
    omega
  ·exact hk.elim
theorem resVal {us:List Value} {vs:List AV} (hr:∀ c,relL w κ L none c vs us) (hs:us.toArray.size=vs.length):relV w κ L none (tuple vs) (if hx:us.toArray.size=1 then us.toArray[0] else .tuple us.toArray):=by
 match vs,us,hr,hs with
 | [],us,hr,hs=>
  have:us=[]:=hr 0
  subst this
  exact ⟨[],rfl,rfl⟩
 | [v],us,hr,hs=>
  obtain ⟨u,us',e,h1,h2⟩:=hr 0
  have h2:us'=[]:=h2
  subst h2
  subst e
  exact h1
 | v::v2::vs,us,hr,hs=>
  have hne:¬ us.toArray.size=1:=by rw[hs];simp
  rw[dif_neg hne]
  exact ⟨us,rfl,hr 0⟩
end
end Go.Proofs.VI
end
