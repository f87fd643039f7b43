/- Contracts of functions, and what they rest on: l11worth. -/
import Derived.Test.YtjlonhiojgljcaaGreatF3
set_option linter.unusedVariables false
set_option linter.unusedSimpArgs false
set_option maxRecDepth 10000
set_option maxHeartbeats 4000000
namespace Go.Proofs.VI
open Go
inductive NF : GExpr → Prop
  | leaf {k n : Int} {s : ByteArray} : foldE (.mk k n s []) = .mk k n s [] → NF (.mk k n s [])
  | neg {a : GExpr} : NF a → a.k ≠ 1 → NF (.mk 4 0 ⟨#[]⟩ [a])
  | two {k : Int} {a b : GExpr} : NF a → NF b → ftwoE k a b = twoE k a b → NF (twoE k a b)
theorem NF.same {e : GExpr} (x : NF e) : foldE e = e := by
  induction x with
  | leaf h => exact h
  | @neg a ha hk ih =>
    show (if (foldE a).k = 1 then numE (-(foldE a).n) else .mk 4 0 ⟨#[]⟩ [foldE a]) = _
    rw [ih, if_neg hk]
  | @two k a b ha hb h iha ihb =>
    show ftwoE k (foldE a) (foldE b) = _
    rw [iha, ihb, h]
theorem NF.num (n : Int) : NF (numE n) := .leaf rfl
theorem NF.part {h : Nat} {e : GExpr} (x : NF e) (o : OkX h e) : NF (partE e).1 := by
  rcases part_cases o with ⟨m, a, n, _, he, _, _, _, hp⟩ | ⟨hp, _⟩
  · rw [hp]
    subst he
    cases x with
    | two ha hb _ => exact ha
  · rw [hp]; exact x
theorem NF.sum {h : Nat} {a : GExpr} (n : Int) (x : NF a) (o : OkX h a) (hk : a.k ≠ 1) (f : flatA a) : NF (sumE a n) := by
  have xp := x.part o
  obtain ⟨f1, f2, f3⟩ := f
  have hk1 : (partE a).1.k ≠ 1 := fun e => hk (f3 e)
  rw [sumE, addE]
  split
  · exact xp
  · rename_i hw
    refine .two xp (.num _) ?_
    have e1 : (numE ((partE a).2 + n)).k = 1 := rfl
    have e2 : (numE ((partE a).2 + n)).n = wr16 ((partE a).2 + n) := rfl
    rw [ftwoE, if_neg (fun h => hk1 h.1), pairE, if_neg (by decide), if_neg (fun h => hk1 h.2), if_pos ⟨rfl, e1⟩, e2, sumE, addE, f1, f2, Int.zero_add, wr16_idem, if_neg hw, numE_wr]
theorem NF.sub {h h' : Nat} {a b : GExpr} (x : NF a) (y : NF b) (o : OkX h a) (ob : OkX h' b) (hk : ¬ (a.k = 1 ∧ b.k = 1)) (f : flatA a) : NF (subE a b) := by
  by_cases hb : b.k = 1
  · rw [subE, if_pos hb]
    exact x.sum _ o (fun e => hk ⟨e, hb⟩) f
  · by_cases hs : (partE a).1.k = 11 ∧ (partE b).1.k = 11 ∧ (partE a).1.n = (partE b).1.n
    · rw [subE, if_neg hb, if_pos hs]; exact .num _
    · rw [subE, if_neg hb, if_neg hs]
      refine .two x y ?_
      rw [ftwoE, if_neg hk, pairE, if_pos rfl, subE, if_neg hb, if_neg hs]
theorem NF.pair {h h' : Nat} {k : Int} {a b : GExpr} (x : NF a) (y : NF b) (o : OkX h a) (ob : OkX h' b) (hk : a.k = 1 ∧ b.k = 1 → compE k a.n b.n = none) (f : flatA a) (g : flatA b) : NF (pairE k a b) := by
  have c5 : a.k = 1 ∧ b.k = 1 → k ≠ 5 ∧ k ≠ 6 := fun z => ⟨fun e => by subst e; have := hk z; simp [compE] at this, fun e => by subst e; have := hk z; simp [compE] at this⟩
  have e0 : ftwoE k a b = pairE k a b := by
    by_cases z : a.k = 1 ∧ b.k = 1
    · rw [ftwoE, if_pos z, hk z]
    · rw [ftwoE, if_neg z]
  by_cases k6 : k = 6
  · rw [pairE, if_pos k6]
    exact x.sub y o ob (fun z => (c5 z).2 k6) f
  · by_cases ka : k = 5 ∧ a.k = 1
    · rw [pairE, if_neg k6, if_pos ka]
      exact y.sum _ ob (fun e => (c5 ⟨ka.2, e⟩).1 ka.1) g
    · by_cases kb : k = 5 ∧ b.k = 1
      · rw [pairE, if_neg k6, if_neg ka, if_pos kb]
        exact x.sum _ o (fun e => (c5 ⟨e, kb.2⟩).1 kb.1) f
      · have e1 : pairE k a b = twoE k a b := by rw [pairE, if_neg k6, if_neg ka, if_neg kb]
        rw [e1]
        exact .two x y (e0.trans e1)
theorem NF.ftwo {h h' : Nat} {k : Int} {a b : GExpr} (x : NF a) (y : NF b) (o : OkX h a) (ob : OkX h' b) (f : flatA a) (g : flatA b) : NF (ftwoE k a b) := by
  by_cases z : a.k = 1 ∧ b.k = 1
  · rw [ftwoE, if_pos z]
    rcases hc : compE k a.n b.n with _ | n
    · exact x.pair y o ob (fun _ => hc) f g
    · exact .num n
  · rw [ftwoE, if_neg z]
    exact x.pair y o ob (fun w => absurd w z) f g
theorem foldE_nf {h : Nat} {e : GExpr} (x : OkX h e) : NF (foldE e) := by
  induction x with
  | num h0 h1 => exact .leaf rfl
  | name hk hs => exact .leaf rfl
  | here => exact .leaf rfl
  | sect h0 h1 => exact .leaf rfl
  | @neg m a ha ih =>
    show NF (if (foldE a).k = 1 then numE (-(foldE a).n) else .mk 4 0 ⟨#[]⟩ [foldE a])
    split
    · exact .num _
    · rename_i hk; exact .neg ih hk
  | @two m k a b h0 h1 ha hb iha ihb =>
    obtain ⟨oa, fa⟩ := foldE_ok ha
    obtain ⟨ob, fb⟩ := foldE_ok hb
    exact iha.ftwo ihb oa ob fa fb
theorem foldE_idem {h : Nat} {e : GExpr} (x : OkX h e) : foldE (foldE e) = foldE e := (foldE_nf x).same
theorem foldX_okE (e : GExpr) : okE (foldX e) 1 false = okE e 1 false := by
  rw [foldX]
  split
  · rename_i h; rw [h]; exact (okE_six _).2 (foldE_ok ((okE_six e).1 h)).1
  · rfl
theorem foldX_idem (e : GExpr) : foldX (foldX e) = foldX e := by
  by_cases h : okE e 1 false = true
  · have h2 : okE (foldX e) 1 false = true := by rw [foldX_okE, h]
    rw [foldX, if_pos h2, foldX, if_pos h]
    exact foldE_idem ((okE_six e).1 h)
  · rw [show foldX e = e by rw [foldX, if_neg h]]
    rw [foldX, if_neg h]
/-! what a term is worth -/
def wcombE (W : Int → Option Int) (G : ByteArray → Option Int) (k n : Int) (s : ByteArray) : List (Option Int) → Option Int
  | [] => if k = 1 then some n else if k = 11 then W n else if k = 12 then G s else none
  | [a] => a.bind fun a => some (wr16 (-a))
  | a :: b :: _ => a.bind fun a => b.bind fun b => compE k a b
mutual
def worthE (W : Int → Option Int) (G : ByteArray → Option Int) : GExpr → Option Int
  | .mk k n s l => wcombE W G k n s (worthL W G l)
def worthL (W : Int → Option Int) (G : ByteArray → Option Int) : List GExpr → List (Option Int)
  | [] => []
  | e :: l => worthE W G e :: worthL W G l
end
def inW (f : Option Int) : Prop := ∀ w, f = some w → 0 ≤ w ∧ w ≤ 65535
theorem nat_bits {x : Int} (h0 : 0 ≤ x) (h1 : x ≤ 65535) : (BitVec.ofInt 64 x).toNat = x.toNat := by
  rw [BitVec.toNat_ofInt]
  rw [Int.emod_eq_of_lt h0 (by have : ((2 ^ 64 : Nat) : Int) = 18446744073709551616 := by decide
                               omega)]
theorem comp_in {k a b w : Int} (ha : 0 ≤ a ∧ a ≤ 65535) (hb : 0 ≤ b ∧ b ≤ 65535) (h : compE k a b = some w) : 0 ≤ w ∧ w ≤ 65535 := by
  rw [compE] at h
  split at h
  · injection h with h; subst h; exact wr16_in _
  split at h
  · injection h with h; subst h; exact wr16_in _
  split at h
  · injection h with h; subst h; exact wr16_in _
  split at h
  · injection h with h; subst h
    have e : bitsI .and .i64 a b = IntKind.wrap .i64 (((BitVec.ofInt 64 a &&& BitVec.ofInt 64 b).toNat : Nat) : Int) := rfl
    have l : (BitVec.ofInt 64 a &&& BitVec.ofInt 64 b).toNat ≤ 65535 := by
      rw [BitVec.toNat_and, nat_bits ha.1 ha.2, nat_bits hb.1 hb.2]
      exact Nat.le_trans Nat.and_le_left (by omega)
    rw [e, w64 (by omega) (by omega)]; omega
  split at h
  · injection h with h; subst h
    have e : bitsI .or .i64 a b = IntKind.wrap .i64 (((BitVec.ofInt 64 a ||| BitVec.ofInt 64 b).toNat : Nat) : Int) := rfl
    have l : (BitVec.ofInt 64 a ||| BitVec.ofInt 64 b).toNat < 2 ^ 16 := by
      rw [BitVec.toNat_or, nat_bits ha.1 ha.2, nat_bits hb.1 hb.2]
      exact Nat.or_lt_two_pow (by have : 2 ^ 16 = 65536 := by decide
                                  omega) (by have : 2 ^ 16 = 65536 := by decide
                                             omega)
    have l2 : (2 : Nat) ^ 16 = 65536 := by decide
    rw [e, w64 (by omega) (by omega)]; omega
  split at h
  · cases h
  · rename_i hb0
    injection h with h; subst h
    have q0 : 0 ≤ a.tdiv b := Int.tdiv_nonneg ha.1 hb.1
    have q1 : a.tdiv b ≤ a := Int.tdiv_le_self _ ha.1
    rw [w64 (by omega) (by omega)]; omega
theorem worth_in {W : Int → Option Int} {G : ByteArray → Option Int} (hW : ∀ n, inW (W n)) (hG : ∀ s, inW (G s)) {h : Nat} {e : GExpr} (x : OkX h e) : inW (worthE W G e) := by
  induction x with
  | num h0 h1 => intro w hw; injection hw with hw; omega
  | @name m k s hk hs => rcases hk with rfl | rfl
                         · intro w hw; cases hw
                         · exact hG s
  | here => intro w hw; cases hw
  | @sect m n h0 h1 => exact hW n
  | @neg m a ha ih =>
    intro w hw
    replace hw : ((worthE W G a).bind fun a => some (wr16 (-a))) = some w := hw
    rcases ha' : worthE W G a with _ | v <;> rw [ha'] at hw
    · cases hw
    · injection hw with hw; subst hw; exact wr16_in _
  | @two m k a b h0 h1 ha hb iha ihb =>
    intro w hw
    replace hw : ((worthE W G a).bind fun a => (worthE W G b).bind fun b => compE k a b) = some w := hw
    rcases ha' : worthE W G a with _ | u <;> rw [ha'] at hw
    · cases hw
    · rcases hb' : worthE W G b with _ | v <;> rw [hb'] at hw
      · cases hw
      · exact comp_in (iha u ha') (ihb v hb') hw
theorem worth_num {W : Int → Option Int} {G : ByteArray → Option Int} (n : Int) : worthE W G (numE n) = some (wr16 n) := rfl
theorem worth_two {W : Int → Option Int} {G : ByteArray → Option Int} (k : Int) (a b : GExpr) : worthE W G (twoE k a b) = (worthE W G a).bind fun u => (worthE W G b).bind fun v => compE k u v := rfl
theorem worth_k1 {W : Int → Option Int} {G : ByteArray → Option Int} {h : Nat} {e : GExpr} (x : OkX h e) (hk : e.k = 1) : worthE W G e = some e.n := by
  cases x with
  | num _ _ => rfl
  | name hk2 _ => simp [GExpr.k] at hk; omega
  | here => simp [GExpr.k] at hk
  | sect _ _ => simp [GExpr.k] at hk
  | neg _ => simp [GExpr.k] at hk
  | two _ _ _ _ => simp [GExpr.k] at hk; omega
theorem worth_part {W : Int → Option Int} {G : ByteArray → Option Int} (hW : ∀ n, inW (W n)) (hG : ∀ s, inW (G s)) {h : Nat} {e : GExpr} (x : OkX h e) {w : Int} (hw : worthE W G e = some w) : ∃ v, worthE W G (partE e).1 = some v ∧ wr16 (v + (partE e).2) = w ∧ 0 ≤ v ∧ v ≤ 65535 := by
  rcases part_cases x with ⟨m, a, n, _, he, h0, h1, ha, hp⟩ | ⟨hp, _⟩
  · rw [hp]
    subst he
    replace hw : ((worthE W G a).bind fun u => compE 5 u n) = some w := hw
    rcases ha' : worthE W G a with _ | u <;> rw [ha'] at hw
    · cases hw
    · replace hw : compE 5 u n = some w := hw
      rw [compE, if_pos rfl] at hw
      injection hw with hw
      exact ⟨u, rfl, hw, worth_in hW hG ha u ha'⟩
  · rw [hp]
    have hb := worth_in hW hG x w hw
    exact ⟨w, hw, by rw [Int.add_zero]; exact wr16_id hb.1 hb.2, hb⟩
theorem worth_sum {W : Int → Option Int} {G : ByteArray → Option Int} (hW : ∀ n, inW (W n)) (hG : ∀ s, inW (G s)) {h : Nat} {e : GExpr} (x : OkX h e) (n : Int) {w : Int} (hw : worthE W G e = some w) : worthE W G (sumE e n) = some (wr16 (w + n)) := by
  obtain ⟨v, hv, he, h0, h1⟩ := worth_part hW hG x hw
  rw [sumE, addE]
  split
  · rename_i hz
    rw [hv]
    simp only [wr16] at hz he ⊢
    congr 1; omega
  · rw [worth_two, hv, worth_num]
    show compE 5 v (wr16 ((partE e).2 + n)) = _
    rw [compE, if_pos rfl]
    simp only [wr16] at he ⊢
    congr 1; omega
theorem part_ok {h : Nat} {e : GExpr} (x : OkX h e) : OkX h (partE e).1 := by
  rcases part_cases x with ⟨m, a, n, rfl, _, _, _, ha, hp⟩ | ⟨hp, _⟩
  · rw [hp]; exact ha.up _ (by omega)
  · rw [hp]; exact x
theorem worth_k11 {W : Int → Option Int} {G : ByteArray → Option Int} {h : Nat} {e : GExpr} (x : OkX h e) (hk : e.k = 11) : worthE W G e = W e.n := by
  cases x with
  | num _ _ => simp [GExpr.k] at hk
  | name hk2 _ => simp [GExpr.k] at hk; omega
  | here => simp [GExpr.k] at hk
  | sect _ _ => rfl
  | neg _ => simp [GExpr.k] at hk
  | two _ _ _ _ => simp [GExpr.k] at hk; omega
theorem worth_sub {W : Int → Option Int} {G : ByteArray → Option Int} (hW : ∀ n, inW (W n)) (hG : ∀ s, inW (G s)) {h h' : Nat} {a b : GExpr} (x : OkX h a) (y : OkX h' b) {u v : Int} (hu : worthE W G a = some u) (hv : worthE W G b = some v) : worthE W G (subE a b) = some (wr16 (u - v)) := by
  rw [subE]
  split
  · rename_i hk
    rw [worth_sum hW hG x _ hu]
    rw [worth_k1 y hk] at hv
    injection hv with hv
    rw [hv]; rfl
  · split
    · rename_i hs
      obtain ⟨p, hp, ep, _⟩ := worth_part hW hG x hu
      obtain ⟨q, hq, eq, _⟩ := worth_part hW hG y hv
      rw [worth_k11 (part_ok x) hs.1] at hp
      rw [worth_k11 (part_ok y) hs.2.1] at hq
      rw [hs.2.2] at hp
      rw [hp] at hq
      injection hq with hq
      rw [worth_num]
      simp only [wr16] at ep eq ⊢
      congr 1; omega
    · rw [worth_two, hu, hv]
      show compE 6 u v = _
      rw [compE, if_neg (by decide), if_pos rfl]
theorem worth_pair {W : Int → Option Int} {G : ByteArray → Option Int} (hW : ∀ n, inW (W n)) (hG : ∀ s, inW (G s)) {h h' : Nat} {k : Int} {a b : GExpr} (x : OkX h a) (y : OkX h' b) {u v w : Int} (hu : worthE W G a = some u) (hv : worthE W G b = some v) (hc : compE k u v = some w) : worthE W G (pairE k a b) = some w := by
  rw [pairE]
  split
  · rename_i hk; subst hk
    rw [worth_sub hW hG x y hu hv, ← hc, compE, if_neg (by decide), if_pos rfl]
  · split
    · rename_i hk
      obtain ⟨rfl, hk⟩ := hk
      rw [worth_k1 x hk] at hu; injection hu with hu
      rw [worth_sum hW hG y _ hv, ← hc, compE, if_pos rfl, hu, Int.add_comm]
    · split
      · rename_i hk
        obtain ⟨rfl, hk⟩ := hk
        rw [worth_k1 y hk] at hv; injection hv with hv
        rw [worth_sum hW hG x _ hu, ← hc, compE, if_pos rfl, hv]
      · rw [worth_two, hu, hv]; exact hc
theorem worth_ftwo {W : Int → Option Int} {G : ByteArray → Option Int} (hW : ∀ n, inW (W n)) (hG : ∀ s, inW (G s)) {h h' : Nat} {k : Int} {a b : GExpr} (x : OkX h a) (y : OkX h' b) {u v w : Int} (hu : worthE W G a = some u) (hv : worthE W G b = some v) (hc : compE k u v = some w) : worthE W G (ftwoE k a b) = some w := by
  rw [ftwoE]
  split
  · rename_i hk
    have gu := hu
    have gv := hv
    rw [worth_k1 x hk.1] at gu; injection gu with gu
    rw [worth_k1 y hk.2] at gv; injection gv with gv
    rw [gu, gv, hc]
    have b := comp_in (worth_in hW hG x u hu) (worth_in hW hG y v hv) hc
    show worthE W G (numE w) = _
    rw [worth_num, wr16_id b.1 b.2]
  · exact worth_pair hW hG x y hu hv hc
theorem worth_fold {W : Int → Option Int} {G : ByteArray → Option Int} (hW : ∀ n, inW (W n)) (hG : ∀ s, inW (G s)) {h : Nat} {e : GExpr} (x : OkX h e) : ∀ {w : Int}, worthE W G e = some w → worthE W G (foldE e) = some w := by
  induction x with
  | num h0 h1 => exact fun h => h
  | name hk hs => exact fun h => h
  | here => exact fun h => h
  | sect h0 h1 => exact fun h => h
  | @neg m a ha ih =>
    intro w hw
    replace hw : ((worthE W G a).bind fun a => some (wr16 (-a))) = some w := hw
    show worthE W G (if (foldE a).k = 1 then numE (-(foldE a).n) else .mk 4 0 ⟨#[]⟩ [foldE a]) = some w
    rcases ha' : worthE W G a with _ | v <;> rw [ha'] at hw
    · cases hw
    · have hf := ih ha'
      injection hw with hw
      split
      · rename_i hk
        rw [worth_k1 (foldE_ok ha).1 hk] at hf
        injection hf with hf
        rw [worth_num, hf, hw]
      · show ((worthE W G (foldE a)).bind fun a => some (wr16 (-a))) = some w
        rw [hf]; exact congrArg some hw
  | @two m k a b h0 h1 ha hb iha ihb =>
    intro w hw
    replace hw : ((worthE W G a).bind fun a => (worthE W G b).bind fun b => compE k a b) = some w := hw
    rcases ha' : worthE W G a with _ | u <;> rw [ha'] at hw
    · cases hw
    · rcases hb' : worthE W G b with _ | v <;> rw [hb'] at hw
      · cases hw
      · exact worth_ftwo hW hG (foldE_ok ha).1 (foldE_ok hb).1 (iha ha') (ihb hb') hw
def worthX (W : Int → Option Int) (G : ByteArray → Option Int) (e : GExpr) : Option Int := if okE e 1 false = true then worthE W G e else none
theorem worthX_fold {W : Int → Option Int} {G : ByteArray → Option Int} (hW : ∀ n, inW (W n)) (hG : ∀ s, inW (G s)) {e : GExpr} {w : Int} (h : worthX W G e = some w) : worthX W G (foldX e) = some w := by
  by_cases o : okE e 1 false = true
  · rw [worthX, if_pos o] at h
    rw [worthX, if_pos (by rw [foldX_okE, o]), foldX, if_pos o]
    exact worth_fold hW hG ((okE_six e).1 o) h
  · rw [worthX, if_neg o] at h; cases h
theorem known_worth {W : Int → Option Int} {G : ByteArray → Option Int} (hW : ∀ n, inW (W n)) (hG : ∀ s, inW (G s)) {e : GExpr} {n w : Int} (h : knownE e = some n) (hw : worthX W G e = some w) : w = n := by
  rw [knownE] at h
  split at h
  · rename_i hk
    simp only [Bool.and_eq_true, decide_eq_true_eq] at hk
    injection h with h
    have h2 := worthX_fold hW hG hw
    have ok2 : okE (foldX e) 1 false = true := by rw [foldX_okE]; exact hk.1
    rw [worthX, if_pos ok2, worth_k1 ((okE_six _).1 ok2) hk.2] at h2
    injection h2 with h2
    omega
  · cases h
end Go.Proofs.VI
