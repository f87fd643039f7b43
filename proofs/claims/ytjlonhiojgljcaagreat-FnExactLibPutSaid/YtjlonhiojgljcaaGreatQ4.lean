/- Contracts of functions, and what they rest on: l17trip l18putv. -/
import Derived.Test.YtjlonhiojgljcaaGreatQ3
import Derived.Test.YtjlonhiojgljcaaGreatN0
import Derived.Test.YtjlonhiojgljcaaGreatD3
set_option linter.unusedVariables false
set_option linter.unusedSimpArgs false
set_option maxRecDepth 10000
set_option maxHeartbeats 4000000
namespace Go.Proofs.VI
open Go
/-! what is written is read again -/
def At (b : List UInt8) (p : Int) (x : List UInt8) : Prop := ∃ a r, b = a ++ (x ++ r) ∧ p = (a.length : Int)
theorem At.app {b x y : List UInt8} {p : Int} (h : At b p (x ++ y)) : At b p x ∧ At b (p + x.length) y := by
  obtain ⟨a, r, e1, e2⟩ := h
  exact ⟨⟨a, y ++ r, by rw [e1, List.append_assoc], e2⟩, ⟨a ++ x, r, by rw [e1]; simp, by rw [e2]; simp⟩⟩
theorem nm_size {s : ByteArray} (h : isNm s = true) : s.size ≤ 6 := by
  rw [isNm, Bool.and_eq_true] at h
  have h := h.1
  rw [form, Bool.and_eq_true] at h
  have := inI_true.1 h.1
  omega
theorem bW_li (n : Int) : ((bW n).length : Int) = 2 := rfl
theorem trip_word {b : List UInt8} {p n : Int} (h0 : 0 ≤ n) (h1 : n ≤ 65535) (h : At b p (bW n)) : getW b p = some (n, p + 2) := by
  obtain ⟨a, r, rfl, rfl⟩ := h
  have hl : (a ++ (bW n ++ r)).length = a.length + (2 + r.length) := by simp [bW]; omega
  rw [getW, if_pos ⟨by omega, by omega⟩, Int.toNat_natCast]
  have e0 : (a ++ (bW n ++ r)).getD a.length 0 = w8 n := by simp [bW]
  have e1 : (a ++ (bW n ++ r)).getD (a.length + 1) 0 = w8 (n / 256) := by simp [bW]
  rw [e0, e1, w8_toNat, w8_toNat]
  congr 2; omega
theorem trip_text {b : List UInt8} {p : Int} {s : ByteArray} (h0 : s.size ≤ 1000) (h : At b p (bT s)) : getT b p = some (s, p + (bT s).length) := by
  have e : bT s = bW s.size ++ bl s := by rw [bT, if_neg (by omega)]
  rw [e] at h ⊢
  obtain ⟨g1, g2⟩ := h.app
  rw [getT, trip_word (by omega) (by omega) g1]
  obtain ⟨a, r, e1, e2⟩ := g2
  have hl : (bl s).length = s.size := bl_len s
  have hw : (bW s.size).length = 2 := rfl
  have hb : b.length = a.length + (s.size + r.length) := by rw [e1]; simp [hl]
  rw [hw] at e2
  have hp : p + 2 = (a.length : Int) := by omega
  have this : bytes (bl s) = s := by cases s; rfl
  have ht : (bl s ++ r).take s.size = bl s := by rw [← hl, List.take_left]
  simp only
  rw [if_pos ⟨by omega, by omega⟩, hp, Int.toNat_natCast, Int.toNat_natCast, e1, List.drop_left, ht, this, List.length_append, hw]
  congr 2; omega
theorem trip_many {α : Type} {b : List UInt8} {P : Int → Option (α × Int)} (f : α → List UInt8) : ∀ (l : List α), (∀ x ∈ l, ∀ p, At b p (f x) → P p = some (x, p + (f x).length)) → ∀ p, At b p (l.map f).flatten → manyO P l.length p = some (l, p + (l.map f).flatten.length)
  | [], _, p, _ => by simp [manyO, retO]
  | x :: l, h, p, ha => by
    rw [List.map_cons, List.flatten_cons] at ha
    obtain ⟨g1, g2⟩ := ha.app
    have h1 := h x List.mem_cons_self p g1
    have h2 := trip_many f l (fun y hy => h y (List.mem_cons_of_mem _ hy)) _ g2
    rw [List.length_cons, manyO, bindO, h1]
    simp only
    rw [bindO, h2]
    simp only [retO, List.map_cons, List.flatten_cons, List.length_append]
    congr 2; omega
theorem trip_expr {b : List UInt8} {d : Nat} {e : GExpr} (x : OkX d e) : ∀ p, At b p (putE e) → exprO b d p = some (e, p + (putE e).length) := by
  induction x with
  | @num m n h0 h1 =>
    intro p h
    have e : putE (.mk 1 n ⟨#[]⟩ []) = bW 1 ++ bW n := by rw [putE, if_pos (.inl rfl)]
    rw [e] at h ⊢
    obtain ⟨g1, g2⟩ := h.app
    rw [exprO, bindO, trip_word (by omega) (by omega) g1]
    simp only
    rw [headO, if_pos (.inl rfl), bindO, trip_word h0 h1 (by rw [bW_li] at g2; exact g2)]
    simp only [retO, List.length_append, bW_len]
    congr 2; omega
  | @sect m n h0 h1 =>
    intro p h
    have e : putE (.mk 11 n ⟨#[]⟩ []) = bW 11 ++ bW n := by rw [putE, if_pos (.inr rfl)]
    rw [e] at h ⊢
    obtain ⟨g1, g2⟩ := h.app
    rw [exprO, bindO, trip_word (by omega) (by omega) g1]
    simp only
    rw [headO, if_pos (.inr rfl), bindO, trip_word h0 (by omega) (by rw [bW_li] at g2; exact g2)]
    simp only [retO, List.length_append, bW_len]
    congr 2; omega
  | @name m k s hk hs =>
    intro p h
    have hk1 : ¬ (k = 1 ∨ k = 11) := by omega
    have e : putE (.mk k 0 s []) = bW k ++ bT s := by rw [putE, if_neg hk1, if_pos hk]
    rw [e] at h ⊢
    obtain ⟨g1, g2⟩ := h.app
    have ht := trip_text (s := s) (p := p + 2) (by have := nm_size hs; omega) (by rw [bW_li] at g2; exact g2)
    rw [exprO, bindO, trip_word (by omega) (by omega) g1]
    simp only
    rw [headO, if_neg hk1, if_pos hk, bindO, ht]
    simp only [retO, List.length_append, bW_len]
    congr 2; omega
  | @here m =>
    intro p h
    have e : putE (.mk 3 0 ⟨#[]⟩ []) = bW 3 := by rw [putE, if_neg (by decide), if_neg (by decide), putL, List.append_nil]
    rw [e] at h ⊢
    rw [exprO, bindO, trip_word (by omega) (by omega) h]
    simp only
    rw [headO, if_neg (by decide), if_neg (by decide)]
    rfl
  | @neg m a ha ih =>
    intro p h
    have e : putE (.mk 4 0 ⟨#[]⟩ [a]) = bW 4 ++ (([a].map putE).flatten) := by rw [putE, if_neg (by decide), if_neg (by decide), putL_eq]
    rw [e] at h ⊢
    obtain ⟨g1, g2⟩ := h.app
    have hm := trip_many (P := exprO b m) putE [a] (fun x hx p hp => by rw [List.mem_singleton.1 hx] at hp ⊢; exact ih p hp) _ g2
    rw [exprO, bindO, trip_word (by omega) (by omega) g1]
    simp only
    rw [headO, if_neg (by decide), if_neg (by decide), bindO]
    rw [bW_li] at hm
    rw [show argsK 4 = [a].length from rfl, hm]
    simp only [retO, List.length_append, bW_len]
    congr 2; omega
  | @two m k a c h0 h1 ha hb iha ihb =>
    intro p h
    have hk1 : ¬ (k = 1 ∨ k = 11) := by omega
    have hk2 : ¬ (k = 2 ∨ k = 12) := by omega
    have e : putE (.mk k 0 ⟨#[]⟩ [a, c]) = bW k ++ (([a, c].map putE).flatten) := by rw [putE, if_neg hk1, if_neg hk2, putL_eq]
    rw [e] at h ⊢
    obtain ⟨g1, g2⟩ := h.app
    have hm := trip_many (P := exprO b m) putE [a, c] (fun x hx p hp => by
      have hx : x = a ∨ x = c := by simpa using hx
      rcases hx with rfl | rfl
      · exact iha p hp
      · exact ihb p hp) _ g2
    have hka : argsK k = 2 := by rw [argsK, if_neg (by omega), if_pos (inI_true.2 ⟨h0, h1⟩)]
    rw [exprO, bindO, trip_word (by omega) (by omega) g1]
    simp only
    rw [headO, if_neg hk1, if_neg hk2, bindO]
    rw [bW_li] at hm
    rw [hka, show (2 : Nat) = [a, c].length from rfl, hm]
    simp only [retO, List.length_append, bW_len]
    congr 2; omega
theorem trip_sect {b : List UInt8} {s : GSect} (hn : isNm s.name = true) (hw : (s.words.length : Int) ≤ 256) (hx : ∀ e ∈ s.words, OkX 6 e) : ∀ p, At b p (secB s) → sectO b p = some (s, p + (secB s).length) := by
  intro p h
  have h6 := nm_size hn
  rw [secB, List.append_assoc, List.append_assoc] at h
  obtain ⟨g1, g2⟩ := h.app
  obtain ⟨g2, g3⟩ := g2.app
  obtain ⟨g3, g4⟩ := g3.app
  have ho : 0 ≤ (if s.over = true then 1 else 0 : Int) ∧ (if s.over = true then 1 else 0 : Int) ≤ 1 := by split <;> omega
  have hd : decide ((if s.over = true then 1 else 0 : Int) = 1) = s.over := by cases s.over <;> rfl
  rw [bW_li] at g3 g4
  rw [bW_li] at g4
  have hm := trip_many (P := exprO b 6) putE s.words (fun x hx2 p hp => trip_expr (hx x hx2) p hp) _ g4
  rw [sectO, bindO, trip_text (by omega) g1]
  simp only
  rw [bindO, trip_word (by omega) (by omega) g2]
  simp only
  rw [atMost, if_neg (by omega), bindO, trip_word (by omega) (by omega) g3]
  simp only
  rw [atMost, if_neg (by omega), bindO, Int.toNat_natCast, hm]
  simp only [retO, hd]
  rw [secB_len]
  congr 2; omega
theorem trip_glob {b : List UInt8} {g : GGlob} (hn : isNm g.name = true) (hx : OkX 6 g.e) : ∀ p, At b p (glbB g) → globO b p = some (g, p + (glbB g).length) := by
  intro p h
  have h6 := nm_size hn
  rw [glbB] at h ⊢
  obtain ⟨g1, g2⟩ := h.app
  rw [globO, bindO, trip_text (by omega) g1]
  simp only
  rw [bindO, trip_expr hx _ g2]
  simp only [retO, List.length_append]
  congr 2; omega
theorem objE_P {o : GObj} (h : objE o = true) : objP o := by
  by_cases hp : objP o
  · exact hp
  · rw [objE, dec_false hp] at h; cases h
theorem trip_obj {b : List UInt8} {o : GObj} (h : objE o = true) : ∀ p, At b p (bW o.sects.length ++ ((o.sects.map secB).flatten ++ (bW o.globs.length ++ (o.globs.map glbB).flatten))) → objO b p = some (o, p + (bW o.sects.length ++ ((o.sects.map secB).flatten ++ (bW o.globs.length ++ (o.globs.map glbB).flatten))).length) := by
  intro p ha
  obtain ⟨⟨h8, h20⟩, h1, h2⟩ := objE_P h
  have six : ∀ e n, placedE e n = true → OkX 6 e := fun e n h => by
    rw [placedE, Bool.and_eq_true] at h
    exact (okE_six e).1 h.1
  obtain ⟨g1, g2⟩ := ha.app
  obtain ⟨g2, g3⟩ := g2.app
  obtain ⟨g3, g4⟩ := g3.app
  rw [bW_li] at g2 g3 g4
  rw [bW_li] at g4
  have m1 := trip_many (P := sectO b) secB o.sects (fun s hs p hp => by
    obtain ⟨i, hi, rfl⟩ := List.mem_iff_getElem.1 hs
    obtain ⟨a1, a2, _, a4⟩ := h1 i hi hi
    exact trip_sect a1 a2 (fun e he => by
      obtain ⟨k, hk, rfl⟩ := List.mem_iff_getElem.1 he
      exact six _ _ (a4 k hk)) p hp) _ g2
  have m2 := trip_many (P := globO b) glbB o.globs (fun g hg p hp => by
    obtain ⟨i, hi, rfl⟩ := List.mem_iff_getElem.1 hg
    obtain ⟨a1, a2, _⟩ := h2 i hi hi
    exact trip_glob a1 (six _ _ a2) p hp) _ g4
  rw [objO, bindO, trip_word (by omega) (by omega) g1]
  simp only
  rw [atMost, if_neg (by omega), bindO, Int.toNat_natCast, m1]
  simp only
  rw [bindO, trip_word (by omega) (by omega) g3]
  simp only
  rw [atMost, if_neg (by omega), bindO, Int.toNat_natCast, m2]
  simp only [retO, List.length_append, bW_len]
  congr 2; omega
theorem trip_mod {o : GObj} (h : objE o = true) (hl : (objT o).length ≤ 3000) : modO (objT o) = some o := by
  have e0 : objT o = [] ++ (bW 2935 ++ ((bW o.sects.length ++ ((o.sects.map secB).flatten ++ (bW o.globs.length ++ (o.globs.map glbB).flatten))) ++ bW (sumB (objB o)))) := by
    rw [objT, objB, midB, hdB]; simp only [List.append_assoc, List.nil_append]
  have ha : At (objT o) 0 (bW 2935 ++ ((bW o.sects.length ++ ((o.sects.map secB).flatten ++ (bW o.globs.length ++ (o.globs.map glbB).flatten))) ++ bW (sumB (objB o)))) := ⟨[], [], by rw [List.append_nil]; exact e0, rfl⟩
  obtain ⟨g1, g2⟩ := ha.app
  obtain ⟨g2, g3⟩ := g2.app
  have hs := wr16_in (-(bsum (objB o)))
  have hB : (objB o).length = 2 + (bW o.sects.length ++ ((o.sects.map secB).flatten ++ (bW o.globs.length ++ (o.globs.map glbB).flatten))).length := by
    rw [objB, midB, hdB]; simp only [List.length_append, bW_len]; omega
  have hT := objT_len o
  rw [modO, trip_word (by omega) (by omega) g1]
  simp only
  rw [bW_li] at g2 g3
  rw [trip_obj h _ g2]
  simp only
  rw [trip_word (n := sumB (objB o)) hs.1 hs.2 g3]
  simp only
  rw [if_pos ⟨trivial, by omega, by rw [show (0 + 2 + ((bW o.sects.length ++ ((o.sects.map secB).flatten ++ (bW o.globs.length ++ (o.globs.map glbB).flatten))).length : Int)).toNat = (objB o).length by omega, objT, List.take_left], hl, h⟩]
theorem trip_put {o : GObj} (h : putObj o ≠ []) : modO (putObj o) = some o := by
  rw [putObj] at h ⊢
  split at h
  · rename_i h1
    split at h
    · exact absurd rfl h
    · rename_i h2
      rw [if_pos h1, if_neg h2]
      exact trip_mod h1 (by omega)
  · exact absurd rfl h
def lessM (s : ByteArray) (m : GLibMod) : Bool := Op.bytesLess m.name.toList s.toList
def posP (l : List GLibMod) (s : ByteArray) : Nat := l.findIdx fun m => !lessM s m
def putOut (l : List GLibMod) (s : ByteArray) (b : List UInt8) : List GLibMod := l.take (posP l s) ++ ⟨s, b⟩ :: (l.drop (posP l s)).filter fun m => !decide (m.name = s)
noncomputable def putV (l : List GLibMod) (s : ByteArray) (b : List UInt8) : List GLibMod × Bool :=
  if libE l = true then (if b = [] then (l, false) else if libE (putOut l s b) = true then (putOut l s b, true) else (l, false)) else (l, false)
theorem libE_P {l : List GLibMod} (h : libE l = true) : libP l := by
  by_cases hp : libP l
  · exact hp
  · rw [libE, dec_false hp] at h; cases h
theorem lessM_kS (s : ByteArray) (m : GLibMod) : lessM s m = decide (kS m.name < kS s) := less_kS m.name s
theorem lib_rising {l : List GLibMod} (h : libE l = true) : ∀ j (hj : j < l.length) i (hi : i < j), kS l[i].name < kS l[j].name := by
  obtain ⟨_, hp⟩ := libE_P h
  intro j
  induction j with
  | zero => intro hj i hi; omega
  | succ j ih =>
    intro hj i hi
    have h1 := (hp (j + 1) hj hj).2.2 (by omega)
    rw [less_kS, decide_eq_true_eq] at h1
    have h1 : kS l[j].name < kS l[j + 1].name := h1
    by_cases e : i = j
    · subst e; exact h1
    · exact ltL_trans (ih (by omega) i (by omega)) h1
theorem posP_at {l : List GLibMod} {s : ByteArray} {i : Nat} (hi : i ≤ l.length) (h1 : ∀ k (hk : k < i), lessM s (l[k]'(by omega)) = true) (h2 : ∀ h : i < l.length, lessM s l[i] = false) : posP l s = i := by
  rw [posP]
  by_cases h : i < l.length
  · rw [List.findIdx_eq h]
    exact ⟨by rw [h2 h]; rfl, fun j hj => by rw [h1 j hj]; rfl⟩
  · have : i = l.length := by omega
    subst this
    exact List.findIdx_eq_length.2 fun x hx => by
      obtain ⟨k, hk, rfl⟩ := List.mem_iff_getElem.1 hx
      rw [h1 k hk]; rfl
theorem put_found {l : List GLibMod} {s : ByteArray} {b : List UInt8} {i : Nat} (h : libE l = true) (hi : i < l.length) (hs : l[i].name = s) : putOut l s b = l.set i ⟨s, b⟩ := by
  have hr := lib_rising h
  have hp : posP l s = i := posP_at (by omega) (fun k hk => by rw [lessM_kS, ← hs]; exact decide_eq_true (hr i hi k hk)) fun _ => by rw [lessM_kS, hs]; exact decide_eq_false (ltL_irrefl _)
  rw [putOut, hp, List.drop_eq_getElem_cons hi, List.filter_cons, if_neg (by simp [hs]), List.set_eq_take_append_cons_drop, if_pos hi]
  congr 2
  refine List.filter_eq_self.2 fun x hx => ?_
  obtain ⟨k, hk, rfl⟩ := List.mem_iff_getElem.1 hx
  rw [List.length_drop] at hk
  rw [List.getElem_drop]
  have := hr (i + 1 + k) (by omega) i (by omega)
  rw [hs] at this
  have hne : ¬ (l[i + 1 + k].name = s) := fun e => by rw [e] at this; exact ltL_irrefl _ this
  simp [hne]
theorem put_none {l : List GLibMod} {s : ByteArray} {b : List UInt8} (h : ∀ m ∈ l, m.name ≠ s) : putOut l s b = l.take (posP l s) ++ ⟨s, b⟩ :: l.drop (posP l s) := by
  rw [putOut]
  congr 2
  refine List.filter_eq_self.2 fun x hx => ?_
  have := h x (List.mem_of_mem_drop hx)
  simp [this]
theorem put_set {l : List GLibMod} {s : ByteArray} {b : List UInt8} {i : Nat} (h : libE l = true) (hi : i < l.length) (hs : l[i].name = s) (hb : (gO (modO b)).2 = true) : libE (l.set i ⟨s, b⟩) = true := by
  obtain ⟨h12, hp⟩ := libE_P h
  refine dec_true ⟨by rw [List.length_set]; exact h12, fun j hj hj' => ?_⟩
  rw [List.length_set] at hj
  have hn : ∀ k (hk : k < l.length), ((l.set i ⟨s, b⟩)[k]'(by rw [List.length_set]; exact hk)).name = l[k].name := fun k hk => by
    rw [List.getElem_set]
    split
    · rename_i e; subst e; exact hs.symm
    · rfl
  obtain ⟨a1, a2, a3⟩ := hp j hj hj
  refine ⟨?_, by rw [hn j hj]; exact a2, fun h0 => by rw [hn j hj, hn (j - 1) (by omega)]; exact a3 h0⟩
  rw [List.getElem_set]
  split
  · exact hb
  · exact a1
theorem put_good {o : GObj} (h : putObj o ≠ []) : (gO (modO (putObj o))).2 = true := by rw [trip_put h]; rfl
theorem putOut_len (l : List GLibMod) (s : ByteArray) (b : List UInt8) : (putOut l s b).length ≤ l.length + 1 := by
  rw [putOut]
  have := List.length_filter_le (fun m : GLibMod => !decide (m.name = s)) (l.drop (posP l s))
  have h2 : (l.take (posP l s)).length + (l.drop (posP l s)).length = l.length := by rw [← List.length_append, List.take_append_drop]
  simp only [List.length_append, List.length_cons]; omega
theorem putOut_mem {l : List GLibMod} {s : ByteArray} {b : List UInt8} {m : GLibMod} (h : m ∈ putOut l s b) : m = ⟨s, b⟩ ∨ m ∈ l := by
  rw [putOut] at h
  rcases List.mem_append.1 h with h | h
  · exact .inr (List.mem_of_mem_take h)
  · rcases List.mem_cons.1 h with h | h
    · exact .inl h
    · exact .inr (List.mem_of_mem_drop (List.mem_filter.1 h).1)
theorem cnt_put (w : GLibMod → Nat) (l : List GLibMod) (s : ByteArray) (b : List UInt8) : cntS w (putOut l s b) ≤ cntS w l + w ⟨s, b⟩ := by
  have happ : ∀ x y : List GLibMod, cntS w (x ++ y) = cntS w x + cntS w y := fun x y => by
    induction x with
    | nil => simp [cntS]
    | cons a x ih => simp only [List.cons_append, cntS, ih]; omega
  have h1 := happ (l.take (posP l s)) (l.drop (posP l s))
  rw [List.take_append_drop] at h1
  have h2 := cnt_sub w (List.filter_sublist (p := fun m : GLibMod => !decide (m.name = s)) (l := l.drop (posP l s)))
  rw [putOut, happ]
  simp only [cntS]
  omega
theorem putV_fit {a : GLib} {s : ByteArray} {b : List UInt8} (fa : GLib.fit a) (hb : b.length ≤ 3000) : GLib.fit ⟨(putV a.mods s b).1⟩ ∧ GLib.tw ⟨(putV a.mods s b).1⟩ ≤ GLib.tw a + (1 + b.length) := by
  have ua := GLib.fit_un fa
  have hfit : libE (putOut a.mods s b) = true → GLib.fit ⟨putOut a.mods s b⟩ := fun h => by
    have := libE_12 h
    refine ⟨by show (putOut a.mods s b).length ≤ _; omega, fun x hx => ?_⟩
    rcases putOut_mem hx with e | e
    · rw [e]; exact GLibMod.fit_mk ⟨by show b.length ≤ _; omega, fun _ _ => trivial⟩
    · exact ua.2 x e
  have hw : ∀ l : List GLibMod, GLib.tw ⟨l⟩ = cntS GLibMod.w l := fun l => rfl
  have hwb : GLibMod.w ⟨s, b⟩ = 1 + b.length := by show 1 + cntS GByte.w b = _; rw [cntB]
  have hc := cnt_put GLibMod.w a.mods s b
  have h0 : GLib.tw a = cntS GLibMod.w a.mods := rfl
  rw [putV]
  split
  · split
    · exact ⟨fa, by rw [hw]; omega⟩
    · split
      · rename_i h; exact ⟨hfit h, by show cntS GLibMod.w (putOut a.mods s b) ≤ _; omega⟩
      · exact ⟨fa, by rw [hw]; omega⟩
  · exact ⟨fa, by rw [hw]; omega⟩
theorem putOut_good {a : GLib} {s : ByteArray} {b : List UInt8} (fa : GLib.fit a) (oa : GLib.ok a) (h : libE a.mods = true) (hb : b.length ≤ 3000) (hs : s.size ≤ 9223372036854775807) : GLib.fit ⟨putOut a.mods s b⟩ ∧ GLib.ok ⟨putOut a.mods s b⟩ := by
  have h12 := libE_12 h
  have hl := putOut_len a.mods s b
  have ua := GLib.fit_un fa
  have va := GLib.ok_un oa
  refine ⟨⟨by show (putOut a.mods s b).length ≤ _; omega, fun x hx => ?_⟩, ⟨by show (putOut a.mods s b).length ≤ _; omega, fun x hx => ?_⟩⟩
  · rcases putOut_mem hx with e | e
    · rw [e]; exact GLibMod.fit_mk ⟨by show b.length ≤ _; omega, fun _ _ => trivial⟩
    · exact ua.2 x e
  · rcases putOut_mem hx with e | e
    · rw [e]; exact ⟨hs, by show b.length ≤ _; omega, fun y _ => trivial⟩
    · exact va.2 x e
end Go.Proofs.VI
