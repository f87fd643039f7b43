/- Contracts of functions, and what they rest on: l20pl. -/
import Derived.Test.YtjlonhiojgljcaaGreatA4
import Derived.Test.YtjlonhiojgljcaaGreatX3
set_option linter.unusedVariables false
set_option linter.unusedSimpArgs false
set_option maxRecDepth 10000
set_option maxHeartbeats 4000000
namespace Go.Proofs.VI
open Go
/-- The sections as they come: which module, which section of it, the section. -/
abbrev GSec := Nat × Nat × GSect
def secO (i : Nat) (o : GObj) : List GSec := o.sects.zipIdx.map fun x => (i, x.2, x.1)
def secL (l : List GObj) : List GSec := l.zipIdx.flatMap fun x => secO x.2 x.1
def keyS (t : GSec) : Int := (t.1 : Int) * 8 + t.2.1
def keyP (p : GPlaced) : Int := p.mod * 8 + p.sect
def wordsS (t : GSec) : Nat := t.2.2.words.length
theorem secO_len (i : Nat) (o : GObj) : (secO i o).length = o.sects.length := by simp [secO]
theorem secO_get (i : Nat) (o : GObj) (k : Nat) (h : k < o.sects.length) : (secO i o)[k]? = some (i, k, o.sects[k]) := by
  rw [secO, List.getElem?_map, List.getElem?_zipIdx, List.getElem?_eq_getElem h]; simp
theorem secO_take (i : Nat) (o : GObj) (k : Nat) (h : k < o.sects.length) : (secO i o).take (k + 1) = (secO i o).take k ++ [(i, k, o.sects[k])] := by
  rw [List.take_add_one, secO_get i o k h]; rfl
theorem secL_take (l : List GObj) (i : Nat) (h : i < l.length) : secL (l.take (i + 1)) = secL (l.take i) ++ secO i l[i] := by
  rw [secL, secL, List.take_add_one, List.getElem?_eq_getElem h, List.zipIdx_append, List.flatMap_append]
  congr 1
  have : (l.take i).length = i := by simp; omega
  simp [this]
theorem secO_mem {i : Nat} {o : GObj} {t : GSec} (h : t ∈ secO i o) : t.1 = i ∧ t.2.1 < o.sects.length := by
  obtain ⟨k, hk, e⟩ := List.mem_iff_getElem.1 h
  rw [secO_len] at hk
  have := secO_get i o k hk
  rw [List.getElem?_eq_getElem (by rw [secO_len]; exact hk)] at this
  rw [← e, Option.some.inj this]
  exact ⟨rfl, hk⟩
theorem secO_sorted (i : Nat) (o : GObj) : (secO i o).Pairwise fun a b => keyS a < keyS b := by
  rw [List.pairwise_iff_getElem]
  intro a b ha hb hab
  have ha' := ha; have hb' := hb
  rw [secO_len] at ha' hb'
  have ea := secO_get i o a ha'
  have eb := secO_get i o b hb'
  rw [List.getElem?_eq_getElem ha] at ea
  rw [List.getElem?_eq_getElem hb] at eb
  rw [Option.some.inj ea, Option.some.inj eb]
  simp only [keyS]
  omega
theorem secL_facts (l : List GObj) (h8 : ∀ o ∈ l, o.sects.length ≤ 8) : ∀ i, i ≤ l.length → ((secL (l.take i)).Pairwise fun a b => keyS a < keyS b) ∧ ∀ t ∈ secL (l.take i), t.1 < i ∧ t.2.1 < 8 := by
  intro i
  induction i with
  | zero => intro _; rw [List.take_zero]; exact ⟨List.Pairwise.nil, fun t h => by cases h⟩
  | succ i ih =>
    intro hi
    obtain ⟨h1, h2⟩ := ih (by omega)
    have h8' := h8 _ (List.getElem_mem (show i < l.length by omega))
    rw [secL_take l i hi]
    refine ⟨List.pairwise_append.2 ⟨h1, secO_sorted i _, fun a ha b hb => ?_⟩, fun t ht => ?_⟩
    · have := h2 a ha
      have := secO_mem hb
      simp only [keyS]
      omega
    · rcases List.mem_append.1 ht with h | h
      · have := h2 t h; exact ⟨by omega, this.2⟩
      · have := secO_mem h; exact ⟨by omega, by omega⟩
theorem secL_sorted (l : List GObj) (h8 : ∀ o ∈ l, o.sects.length ≤ 8) : ((secL l).Pairwise fun a b => keyS a < keyS b) ∧ ∀ t ∈ secL l, t.1 < l.length ∧ t.2.1 < 8 := by
  have := secL_facts l h8 l.length (Nat.le_refl _)
  rwa [List.take_length] at this
/-- The names of all sections, as they come first. -/
def addN (ns : List GString) (t : GSec) : List GString := if placeOf ns t.2.2.name < 0 then ns ++ [t.2.2.name] else ns
def namesP (P : List GSec) : List GString := P.foldl addN []
def namesOf (l : List GObj) : List GString := namesP (secL l)
theorem namesP_snoc (P : List GSec) (t : GSec) : namesP (P ++ [t]) = addN (namesP P) t := by rw [namesP, namesP, List.foldl_append]; rfl
theorem addN_facts (P : List GSec) : ∀ ns : List GString, ns.Nodup → (P.foldl addN ns).Nodup ∧ (P.foldl addN ns).length ≤ ns.length + P.length := by
  induction P with
  | nil => intro ns h; exact ⟨h, by simp⟩
  | cons t P ih =>
    intro ns h
    rw [List.foldl_cons, List.length_cons]
    by_cases hp : placeOf ns t.2.2.name < 0
    · have e : addN ns t = ns ++ [t.2.2.name] := if_pos hp
      have hn : t.2.2.name ∉ ns := fun hm => by
        have := placeOf_any ns t.2.2.name
        rw [decide_eq_false (by omega)] at this
        have h2 := List.any_eq_false.1 this.symm _ hm
        simp at h2
      obtain ⟨h1, h2⟩ := ih (ns ++ [t.2.2.name]) (List.nodup_append.2 ⟨h, by simp, fun a ha b hb e => hn (by rw [← List.mem_singleton.1 hb, ← e]; exact ha)⟩)
      rw [e]
      refine ⟨h1, ?_⟩
      rw [List.length_append] at h2
      simp only [List.length_cons, List.length_nil] at h2
      omega
    · have e : addN ns t = ns := if_neg hp
      rw [e]
      obtain ⟨h1, h2⟩ := ih ns h
      exact ⟨h1, by omega⟩
theorem namesP_nodup (P : List GSec) : (namesP P).Nodup := (addN_facts P [] List.nodup_nil).1
theorem namesP_len (P : List GSec) : (namesP P).length ≤ P.length := by have := (addN_facts P [] List.nodup_nil).2; rw [List.length_nil, Nat.zero_add] at this; exact this
/-- The sections of a name; whether all are Over, or none. -/
def ofN (n : GString) (P : List GSec) : List GSec := P.filter fun t => decide (t.2.2.name = n)
def okP (M : List GSec) : Prop := ∀ t ∈ M, ∀ u ∈ M, t.2.2.over = u.2.2.over
noncomputable def okM (M : List GSec) : Bool := dec (okP M)
theorem ofN_yes {n : GString} {P : List GSec} {t : GSec} (h : t.2.2.name = n) : ofN n (P ++ [t]) = ofN n P ++ [t] := by
  simp [ofN, h]
theorem ofN_no {n : GString} {P : List GSec} {t : GSec} (h : ¬ t.2.2.name = n) : ofN n (P ++ [t]) = ofN n P := by
  simp [ofN, h]
theorem okP_snoc {M : List GSec} {t : GSec} : okP (M ++ [t]) ↔ okP M ∧ ∀ u ∈ M, u.2.2.over = t.2.2.over := by
  constructor
  · exact fun h => ⟨fun a ha b hb => h a (List.mem_append_left _ ha) b (List.mem_append_left _ hb), fun u hu => h u (List.mem_append_left _ hu) t (List.mem_append_right _ List.mem_cons_self)⟩
  · rintro ⟨h1, h2⟩ a ha b hb
    rcases List.mem_append.1 ha with ha | ha <;> rcases List.mem_append.1 hb with hb | hb
    · exact h1 a ha b hb
    · rw [List.mem_singleton.1 hb]; exact h2 a ha
    · rw [List.mem_singleton.1 ha]; exact (h2 b hb).symm
    · rw [List.mem_singleton.1 ha, List.mem_singleton.1 hb]
theorem okP_pre {M N : List GSec} (h : okP (M ++ N)) : okP M := fun a ha b hb => h a (List.mem_append_left _ ha) b (List.mem_append_left _ hb)
/-- A section is placed behind what is placed, or where all began. -/
def plc (at_ : Int) (st : List GPlaced × Int) (t : GSec) : List GPlaced × Int :=
  (st.1 ++ [⟨t.1, t.2.1, if t.2.2.over = true then at_ else st.2⟩], max st.2 ((if t.2.2.over = true then at_ else st.2) + 2 * (wordsS t : Int)))
def plcs (at_ : Int) (M : List GSec) : List GPlaced × Int := M.foldl (plc at_) ([], at_)
theorem plcs_snoc (at_ : Int) (M : List GSec) (t : GSec) : plcs at_ (M ++ [t]) = plc at_ (plcs at_ M) t := by rw [plcs, plcs, List.foldl_append]; rfl
theorem plc_facts (at_ : Int) (M : List GSec) : ∀ st : List GPlaced × Int, at_ ≤ st.2 → (M.foldl (plc at_) st).1.map keyP = st.1.map keyP ++ M.map keyS ∧ st.2 ≤ (M.foldl (plc at_) st).2 ∧ (M.foldl (plc at_) st).2 ≤ st.2 + 2 * (cntS wordsS M : Nat) ∧ (∀ p ∈ (M.foldl (plc at_) st).1, p ∈ st.1 ∨ ∃ t ∈ M, p.mod = t.1 ∧ p.sect = t.2.1) := by
  induction M with
  | nil => intro st h; exact ⟨by simp, Int.le_refl _, by simp [cntS], fun p hp => .inl hp⟩
  | cons t M ih =>
    intro st h
    have hw : 0 ≤ (wordsS t : Int) := Int.natCast_nonneg _
    have h2 : st.2 ≤ (plc at_ st t).2 ∧ (plc at_ st t).2 ≤ st.2 + 2 * (wordsS t : Int) := by
      simp only [plc]
      split <;> omega
    obtain ⟨a, b, c, d⟩ := ih (plc at_ st t) (by omega)
    rw [List.foldl_cons]
    refine ⟨?_, by omega, ?_, fun p hp => ?_⟩
    · rw [a]
      simp [plc, keyP, keyS]
    · simp only [cntS]; omega
    · rcases d p hp with h | ⟨u, hu, e⟩
      · rcases List.mem_append.1 h with h | h
        · exact .inl h
        · rw [List.mem_singleton.1 h]; exact .inr ⟨t, List.mem_cons_self, rfl, rfl⟩
      · exact .inr ⟨u, List.mem_cons_of_mem _ hu, e⟩
/-- All names, one after the other. -/
def plcN (l : List GObj) (st : List GPlaced × Int) (n : GString) : List GPlaced × Int := (st.1 ++ (plcs st.2 (ofN n (secL l))).1, (plcs st.2 (ofN n (secL l))).2)
def plcA (l : List GObj) (at_ : Int) (ns : List GString) : List GPlaced × Int := ns.foldl (plcN l) ([], at_)
theorem plcA_snoc (l : List GObj) (at_ : Int) (ns : List GString) (n : GString) : plcA l at_ (ns ++ [n]) = plcN l (plcA l at_ ns) n := by rw [plcA, plcA, List.foldl_append]; rfl
theorem cnt_filter {α : Type} (w : α → Nat) (p : α → Bool) (l : List α) : cntS w (l.filter p) ≤ cntS w l := by
  induction l with
  | nil => simp
  | cons x l ih => rw [List.filter_cons]; split <;> simp only [cntS] <;> omega
theorem snoc_ind {α : Type} {P : List α → Prop} (h0 : P []) (h1 : ∀ l a, P l → P (l ++ [a])) (l : List α) : P l := by
  have : ∀ r : List α, P r.reverse := fun r => by
    induction r with
    | nil => exact h0
    | cons a r ih => rw [List.reverse_cons]; exact h1 _ _ ih
  have := this l.reverse
  rwa [List.reverse_reverse] at this
theorem plcA_facts (l : List GObj) (at_ : Int) (ns : List GString) : (plcA l at_ ns).1.map keyP = ns.flatMap (fun n => (ofN n (secL l)).map keyS) ∧ at_ ≤ (plcA l at_ ns).2 ∧ (plcA l at_ ns).2 ≤ at_ + 2 * ((ns.length * cntS wordsS (secL l) : Nat) : Int) ∧ (plcA l at_ ns).1.length ≤ ns.length * (secL l).length ∧ ∀ p ∈ (plcA l at_ ns).1, ∃ t ∈ secL l, p.mod = t.1 ∧ p.sect = t.2.1 := by
  refine snoc_ind (P := fun ns => (plcA l at_ ns).1.map keyP = ns.flatMap (fun n => (ofN n (secL l)).map keyS) ∧ at_ ≤ (plcA l at_ ns).2 ∧ (plcA l at_ ns).2 ≤ at_ + 2 * ((ns.length * cntS wordsS (secL l) : Nat) : Int) ∧ (plcA l at_ ns).1.length ≤ ns.length * (secL l).length ∧ ∀ p ∈ (plcA l at_ ns).1, ∃ t ∈ secL l, p.mod = t.1 ∧ p.sect = t.2.1) ?_ (fun ns n ih => ?_) ns
  · exact ⟨rfl, Int.le_refl _, by simp [plcA], by simp [plcA], fun p hp => by cases hp⟩
  · obtain ⟨a, b, c, d, e⟩ := ih
    obtain ⟨f1, f2, f3, f4⟩ := plc_facts (plcA l at_ ns).2 (ofN n (secL l)) ([], (plcA l at_ ns).2) (Int.le_refl _)
    have hc := cnt_filter wordsS (fun t => decide (t.2.2.name = n)) (secL l)
    have hl := List.length_filter_le (fun t : GSec => decide (t.2.2.name = n)) (secL l)
    have hlen : (plcs (plcA l at_ ns).2 (ofN n (secL l))).1.length = (ofN n (secL l)).length := by
      have := congrArg List.length f1
      simpa [plcs] using this
    rw [plcA_snoc]
    refine ⟨?_, ?_, ?_, ?_, fun p hp => ?_⟩
    · simp only [plcN, List.map_append, List.flatMap_append, a]
      congr 1
      have := f1
      simpa [plcs] using this
    · show at_ ≤ (plcs _ _).2
      have : (plcA l at_ ns).2 ≤ (plcs (plcA l at_ ns).2 (ofN n (secL l))).2 := f2
      omega
    · show (plcs _ _).2 ≤ _
      have h3 : (plcs (plcA l at_ ns).2 (ofN n (secL l))).2 ≤ (plcA l at_ ns).2 + 2 * (cntS wordsS (ofN n (secL l)) : Nat) := f3
      have h4 : cntS wordsS (ofN n (secL l)) ≤ cntS wordsS (secL l) := hc
      rw [List.length_append, Nat.add_mul]
      simp only [List.length_cons, List.length_nil]
      omega
    · simp only [plcN, List.length_append, List.length_cons, List.length_nil, Nat.add_mul, hlen]
      have : (ofN n (secL l)).length ≤ (secL l).length := hl
      omega
    · rcases List.mem_append.1 hp with h | h
      · exact e p h
      · rcases f4 p h with h | ⟨t, ht, h⟩
        · cases h
        · exact ⟨t, (List.mem_filter.1 ht).1, h⟩
theorem plcA_nodup (l : List GObj) (h8 : ∀ o ∈ l, o.sects.length ≤ 8) (at_ : Int) (ns : List GString) (hn : ns.Nodup) : ((plcA l at_ ns).1.map keyP).Nodup := by
  rw [(plcA_facts l at_ ns).1]
  have hs := (secL_sorted l h8).1
  have inj : ∀ a ∈ secL l, ∀ b ∈ secL l, keyS a = keyS b → a = b := fun a ha b hb e => by
    obtain ⟨i, hi, ea⟩ := List.mem_iff_getElem.1 ha
    obtain ⟨j, hj, eb⟩ := List.mem_iff_getElem.1 hb
    rw [← ea, ← eb] at e ⊢
    rcases Nat.lt_trichotomy i j with h | h | h
    · have := List.pairwise_iff_getElem.1 hs i j hi hj h; omega
    · subst h; rfl
    · have := List.pairwise_iff_getElem.1 hs j i hj hi h; omega
  induction ns with
  | nil => exact List.nodup_nil
  | cons n ns ih =>
    have hn' := List.nodup_cons.1 hn
    rw [List.flatMap_cons]
    refine List.nodup_append.2 ⟨?_, ih hn'.2, fun a ha b hb e => ?_⟩
    · rw [List.Nodup, List.pairwise_map]
      exact (hs.sublist List.filter_sublist).imp fun h => by omega
    · obtain ⟨t, ht, rfl⟩ := List.mem_map.1 ha
      obtain ⟨m, hm, hb⟩ := List.mem_flatMap.1 hb
      obtain ⟨u, hu, rfl⟩ := List.mem_map.1 hb
      have ht' := List.mem_filter.1 ht
      have hu' := List.mem_filter.1 hu
      have := inj t ht'.1 u hu'.1 e
      subst this
      have e1 := of_decide_eq_true ht'.2
      have e2 := of_decide_eq_true hu'.2
      exact hn'.1 (by rw [← e1, e2]; exact hm)
theorem secO_bulk (i : Nat) (ss : List GSect) : ∀ s, ((ss.zipIdx s).map fun x => ((i, x.2, x.1) : GSec)).length + cntS wordsS ((ss.zipIdx s).map fun x => ((i, x.2, x.1) : GSec)) ≤ bulkS GSect.bulk ss := by
  induction ss with
  | nil => intro s; simp [cntS, bulkS]
  | cons x ss ih =>
    intro s
    have := ih (s + 1)
    have hw := bulkS_len GExpr.bulk x.words
    simp only [List.zipIdx_cons, List.map_cons, List.length_cons, cntS, bulkS, GSect.bulk, wordsS] at this ⊢
    omega
end Go.Proofs.VI
