/- Contracts of functions, and what they rest on: l21lnk1 l21plain l21link l21link2. -/
import Derived.Test.YtjlonhiojgljcaaGreatO5
set_option linter.unusedVariables false
set_option linter.unusedSimpArgs false
set_option maxRecDepth 10000
set_option maxHeartbeats 4000000
namespace Go.Proofs.VI
open Go
theorem secL_mem {l : List GObj} {t : GSec} (h : t ∈ secL l) : ∃ (h1 : t.1 < l.length) (h2 : t.2.1 < l[t.1].sects.length), t.2.2 = l[t.1].sects[t.2.1] := by
  rw [secL, List.mem_flatMap] at h
  obtain ⟨⟨o, i⟩, ho, ht⟩ := h
  have hoi := List.mem_zipIdx ho
  simp only [Nat.zero_le, Nat.zero_add, Nat.sub_zero, true_and] at hoi
  obtain ⟨hi, e⟩ := hoi
  rw [secO, List.mem_map] at ht
  obtain ⟨⟨s, k⟩, hs, rfl⟩ := ht
  have hsk := List.mem_zipIdx hs
  simp only [Nat.zero_le, Nat.zero_add, Nat.sub_zero, true_and] at hsk
  obtain ⟨hk, e2⟩ := hsk
  have e' : o = l[i]'hi := e
  clear e
  have e3 : s = o.sects[k]'hk := e2
  clear e2 hs ho
  subst e'
  exact ⟨hi, hk, e3⟩
/-- A placed section stands between where all began and the end. -/
theorem plc_in (at_ : Int) (M : List GSec) : ∀ st : List GPlaced × Int, at_ ≤ st.2 → (∀ p ∈ st.1, ∃ w : Nat, at_ ≤ p.pos ∧ p.pos + 2 * (w : Int) ≤ st.2) → ∀ p ∈ (M.foldl (plc at_) st).1, (p ∈ st.1 ∧ st.2 ≤ (M.foldl (plc at_) st).2) ∨ ∃ t ∈ M, p.mod = t.1 ∧ p.sect = t.2.1 ∧ at_ ≤ p.pos ∧ p.pos + 2 * (wordsS t : Int) ≤ (M.foldl (plc at_) st).2 := by
  induction M with
  | nil => intro st h _ p hp; exact .inl ⟨hp, Int.le_refl _⟩
  | cons t M ih =>
    intro st h hin p hp
    have hw : 0 ≤ (wordsS t : Int) := Int.natCast_nonneg _
    have h2 : st.2 ≤ (plc at_ st t).2 := by simp only [plc]; split <;> omega
    have hpos : at_ ≤ (if t.2.2.over = true then at_ else st.2) ∧ (if t.2.2.over = true then at_ else st.2) + 2 * (wordsS t : Int) ≤ (plc at_ st t).2 := by
      simp only [plc]; split <;> omega
    obtain ⟨f1, f2, f3, f4⟩ := plc_facts at_ M (plc at_ st t) (by omega)
    rw [List.foldl_cons] at hp ⊢
    have hin' : ∀ q ∈ (plc at_ st t).1, ∃ w : Nat, at_ ≤ q.pos ∧ q.pos + 2 * (w : Int) ≤ (plc at_ st t).2 := fun q hq => by
      rcases List.mem_append.1 hq with hq | hq
      · obtain ⟨w, a, b⟩ := hin q hq
        exact ⟨w, a, by omega⟩
      · rw [List.mem_singleton.1 hq]
        exact ⟨wordsS t, hpos.1, hpos.2⟩
    rcases ih (plc at_ st t) (by omega) hin' p hp with ⟨a, b⟩ | ⟨u, hu, e⟩
    · rcases List.mem_append.1 a with a | a
      · exact .inl ⟨a, by omega⟩
      · rw [List.mem_singleton.1 a]
        exact .inr ⟨t, List.mem_cons_self, rfl, rfl, hpos.1, by have := hpos.2; simp only at *; omega⟩
    · exact .inr ⟨u, List.mem_cons_of_mem _ hu, e⟩
theorem plcA_in (l : List GObj) (a : Int) (ns : List GString) : ∀ p ∈ (plcA l a ns).1, ∃ t ∈ secL l, p.mod = t.1 ∧ p.sect = t.2.1 ∧ a ≤ p.pos ∧ p.pos + 2 * (wordsS t : Int) ≤ (plcA l a ns).2 := by
  refine snoc_ind (P := fun ns => ∀ p ∈ (plcA l a ns).1, ∃ t ∈ secL l, p.mod = t.1 ∧ p.sect = t.2.1 ∧ a ≤ p.pos ∧ p.pos + 2 * (wordsS t : Int) ≤ (plcA l a ns).2) (fun p hp => by cases hp) (fun ns n ih => ?_) ns
  obtain ⟨g1, g2, g3, g4, g5⟩ := plcA_facts l a ns
  rw [plcA_snoc]
  intro p hp
  obtain ⟨f1, f2, f3, f4⟩ := plc_facts (plcA l a ns).2 (ofN n (secL l)) ([], (plcA l a ns).2) (Int.le_refl _)
  have f2 : (plcA l a ns).2 ≤ (plcs (plcA l a ns).2 (ofN n (secL l))).2 := f2
  rcases List.mem_append.1 hp with hp | hp
  · obtain ⟨t, ht, e1, e2, e3, e4⟩ := ih p hp
    exact ⟨t, ht, e1, e2, e3, by show _ ≤ (plcs _ _).2; omega⟩
  · rcases plc_in (plcA l a ns).2 (ofN n (secL l)) ([], (plcA l a ns).2) (Int.le_refl _) (fun q hq => by cases hq) p hp with ⟨h, _⟩ | ⟨t, ht, e1, e2, e3, e4⟩
    · cases h
    · exact ⟨t, (List.mem_filter.1 ht).1, e1, e2, by omega, e4⟩
/-! the words of placed sections, one after the other -/
def wordsAt (l : List GObj) (x : GPlaced) : List GExpr := match sectAt l x with | some s => s.words | none => []
abbrev GWrd := GPlaced × Nat × GExpr
def wrdS (l : List GObj) (x : GPlaced) : List GWrd := (wordsAt l x).zipIdx.map fun t => (x, t.2, t.1)
theorem wrdS_len (l : List GObj) (x : GPlaced) : (wrdS l x).length = (wordsAt l x).length := by simp [wrdS]
theorem wrdS_take (l : List GObj) (x : GPlaced) (k : Nat) (h : k < (wordsAt l x).length) : (wrdS l x).take (k + 1) = (wrdS l x).take k ++ [(x, k, (wordsAt l x)[k])] := by
  rw [List.take_add_one, wrdS, List.getElem?_map, List.getElem?_zipIdx, List.getElem?_eq_getElem h]; simp
theorem wrd_pre (l : List GObj) (p : List GPlaced) (i : Nat) (h : i < p.length) (k : Nat) : ∃ N, cat (wrdS l) p = (cat (wrdS l) (p.take i) ++ (wrdS l p[i]).take k) ++ N := by
  obtain ⟨N, e⟩ := cat_pre (wrdS l) p (i + 1)
  rw [cat_take _ _ _ h] at e
  exact ⟨(wrdS l p[i]).drop k ++ N, by rw [e, List.append_assoc, List.append_assoc, ← List.append_assoc (List.take k _), List.take_append_drop]⟩
noncomputable def lstep (l : List GObj) (p : List GPlaced) (ns : List GString) (vs : List Int) (a : Int) (st : Option (List Int)) (t : GWrd) : Option (List Int) :=
  st.bind fun W => (worthX (wW (basesOf l p t.1.mod)) (wG ns vs) t.2.2).map fun n => W.set (((t.1.pos - a).tdiv 2).toNat + t.2.1) n
noncomputable def lfold (l : List GObj) (p : List GPlaced) (ns : List GString) (vs : List Int) (a : Int) (W0 : List Int) (P : List GWrd) : Option (List Int) := P.foldl (lstep l p ns vs a) (some W0)
theorem lfold_snoc (l : List GObj) (p : List GPlaced) (ns : List GString) (vs : List Int) (a : Int) (W0 : List Int) (P : List GWrd) (t : GWrd) : lfold l p ns vs a W0 (P ++ [t]) = lstep l p ns vs a (lfold l p ns vs a W0 P) t := by rw [lfold, lfold, List.foldl_append]; rfl
theorem lfold_stop {l : List GObj} {p : List GPlaced} {ns : List GString} {vs : List Int} {a : Int} {W0 : List Int} {P N : List GWrd} (h : lfold l p ns vs a W0 P = none) : lfold l p ns vs a W0 (P ++ N) = none := by
  have : ∀ N : List GWrd, N.foldl (lstep l p ns vs a) none = none := fun N => by
    induction N with
    | nil => rfl
    | cons t N ih => rw [List.foldl_cons]; exact ih
  rw [lfold, List.foldl_append, show List.foldl (lstep l p ns vs a) (some W0) P = none from h]
  exact this N
theorem lfold_len {l : List GObj} {p : List GPlaced} {ns : List GString} {vs : List Int} {a : Int} {W0 : List Int} (P : List GWrd) : ∀ W, lfold l p ns vs a W0 P = some W → W.length = W0.length := by
  refine snoc_ind (P := fun P => ∀ W, lfold l p ns vs a W0 P = some W → W.length = W0.length) (fun W h => by injection h with h; rw [h]) (fun P t ih W h => ?_) P
  rw [lfold_snoc, lstep] at h
  cases hp : lfold l p ns vs a W0 P with
  | none => rw [hp] at h; cases h
  | some V =>
    rw [hp, Option.bind_some, Option.map_eq_some_iff] at h
    obtain ⟨n, _, e⟩ := h
    rw [← e, List.length_set]
    exact ih V hp
noncomputable def linkW (l : List GObj) (a : Int) : Option (List Int) := lfold l (placeL l a) (gAll l a).1 (gAll l a).2.1 a (List.replicate ((placeE l a - a).tdiv 2).toNat 0) (cat (wrdS l) (placeL l a))
noncomputable def linkV (l : List GObj) (a : Int) : List Int × Int := if (gAll l a).2.2 ≠ 0 then ([], (gAll l a).2.2) else if lackV l ≠ [] then ([], 3) else match linkW l a with | some W => (W, 0) | none => ([], 4)
theorem place_ok {l : List GObj} {a : Int} (h : placeC l a = 0) : objsP l ∧ adrE a = true ∧ placeL l a = ordK keyP (plcA l a (namesOf l)).1 ∧ placeE l a = (plcA l a (namesOf l)).2 ∧ placeE l a ≤ 512 := by
  have h1 : objsP l := by
    by_cases h1 : objsP l
    · exact h1
    · have := (place_obj (a := a) h1).1; omega
  cases h2 : adrE a with
  | false => have := (place_adr h1 h2).1; omega
  | true =>
    by_cases h3 : okNs l (namesOf l)
    · by_cases h4 : 512 < (plcA l a (namesOf l)).2
      · have := (place_big h1 h2 h3 h4).1; omega
      · obtain ⟨_, e1, e2⟩ := place_fine h1 h2 h3 h4
        exact ⟨h1, rfl, e1, e2, by omega⟩
    · have := (place_two h1 h2 h3).1; omega
theorem place_at {l : List GObj} {a : Int} (hC : placeC l a = 0) : ∀ x ∈ placeL l a, ∃ o s, 0 ≤ x.mod ∧ l[x.mod.toNat]? = some o ∧ o ∈ l ∧ 0 ≤ x.sect ∧ o.sects[x.sect.toNat]? = some s ∧ s ∈ o.sects ∧ wordsAt l x = s.words ∧ a ≤ x.pos ∧ x.pos + 2 * (s.words.length : Int) ≤ placeE l a := fun x hx => by
  obtain ⟨_, _, e1, e2, _⟩ := place_ok hC
  rw [e1] at hx
  have hx := (ordK_perm keyP _).mem_iff.1 hx
  obtain ⟨t, ht, m1, m2, p1, p2⟩ := plcA_in l a (namesOf l) x hx
  obtain ⟨h1, h2, e3⟩ := secL_mem ht
  have q1 : l[x.mod.toNat]? = some l[t.1] := by rw [m1, Int.toNat_natCast, List.getElem?_eq_getElem h1]
  have q2 : l[t.1].sects[x.sect.toNat]? = some t.2.2 := by rw [m2, Int.toNat_natCast, List.getElem?_eq_getElem h2, e3]
  refine ⟨l[t.1], t.2.2, by omega, q1, List.getElem_mem h1, by omega, q2, by rw [e3]; exact List.getElem_mem h2, ?_, p1, by rw [e2]; exact p2⟩
  have i1 : inI x.mod 0 (l.length - 1) = true := inI_true.2 ⟨by omega, by omega⟩
  have i2 : inI x.sect 0 (l[t.1].sects.length - 1) = true := inI_true.2 ⟨by omega, by omega⟩
  have : sectAt l x = some t.2.2 := by
    rw [sectAt, if_pos i1, q1]
    simp only [i2, if_true]
    exact q2
  rw [wordsAt, this]
theorem gAll_zero {l : List GObj} {a : Int} (h : (gAll l a).2.2 = 0) : placeC l a = 0 := by
  by_cases hC : placeC l a = 0
  · exact hC
  · rw [gAll_bad hC] at h; exact h
theorem linkN {l : List GObj} {a : Int} (hC : placeC l a = 0) : 0 ≤ a ∧ a ≤ 510 ∧ (a ≤ placeE l a → ((placeE l a - a).tdiv 2 = (placeE l a - a) / 2)) ∧ (placeE l a - a).tdiv 2 ≤ 512 := by
  obtain ⟨_, h2, _, h4, h5⟩ := place_ok hC
  rw [adrE, Bool.and_eq_true] at h2
  have h2 := inI_true.1 h2.1
  have h0 : a ≤ placeE l a := by rw [h4]; exact (plcA_facts l a (namesOf l)).2.1
  refine ⟨h2.1, h2.2, fun h => Int.tdiv_eq_ediv_of_nonneg (by omega), ?_⟩
  rw [Int.tdiv_eq_ediv_of_nonneg (by omega)]; omega
theorem linkV_len (l : List GObj) (a : Int) : (linkV l a).1.length ≤ 512 := by
  rw [linkV]
  split
  · exact Nat.zero_le _
  · rename_i h
    have hC := gAll_zero (Classical.not_not.1 h)
    split
    · exact Nat.zero_le _
    · split
      · rename_i W hW
        have e := lfold_len _ _ hW
        rw [List.length_replicate] at e
        obtain ⟨_, _, _, h4⟩ := linkN hC
        show W.length ≤ 512
        omega
      · exact Nat.zero_le _
theorem linkV_code {l : List GObj} {a : Int} (h : (gAll l a).2.2 ≠ 0) : linkV l a = ([], (gAll l a).2.2) := if_pos h
theorem linkV_lack {l : List GObj} {a : Int} (h : (gAll l a).2.2 = 0) (h2 : lackV l ≠ []) : linkV l a = ([], 3) := by rw [linkV, if_neg (fun g => g h), if_pos h2]
theorem linkV_none {l : List GObj} {a : Int} (h : (gAll l a).2.2 = 0) (h2 : lackV l = []) (h3 : linkW l a = none) : linkV l a = ([], 4) := by rw [linkV, if_neg (fun g => g h), if_neg (fun g => g h2), h3]
theorem linkV_some {l : List GObj} {a : Int} {W : List Int} (h : (gAll l a).2.2 = 0) (h2 : lackV l = []) (h3 : linkW l a = some W) : linkV l a = (W, 0) := by rw [linkV, if_neg (fun g => g h), if_neg (fun g => g h2), h3]
/-- The place of a word. -/
theorem link_at {l : List GObj} {a : Int} (hC : placeC l a = 0) {x : GPlaced} {s : GSect} (p1 : a ≤ x.pos) (p2 : x.pos + 2 * (s.words.length : Int) ≤ placeE l a) {k : Nat} (hk : k < s.words.length) :
    IntKind.wrap .i64 (IntKind.wrap .i64 ((IntKind.wrap .i64 (x.pos - a)).tdiv 2) + (k : Int)) = (((x.pos - a).tdiv 2).toNat + k : Nat) ∧ ((x.pos - a).tdiv 2).toNat + k < ((placeE l a - a).tdiv 2).toNat := by
  obtain ⟨h0, h1, h2, h3⟩ := linkN hC
  have h2 := h2 (by omega)
  have e : (x.pos - a).tdiv 2 = (x.pos - a) / 2 := Int.tdiv_eq_ediv_of_nonneg (by omega)
  obtain ⟨_, _, _, _, h5⟩ := place_ok hC
  rw [h2, e, w64 (x := x.pos - a) (by omega) (by omega), e, w64 (x := (x.pos - a) / 2) (by omega) (by omega), w64 (by omega) (by omega)]
  omega
theorem link_num {l : List GObj} {a : Int} (hC : placeC l a = 0) : IntKind.wrap .i64 ((IntKind.wrap .i64 (placeE l a - a)).tdiv 2) = (((placeE l a - a).tdiv 2).toNat : Int) ∧ ((placeE l a - a).tdiv 2).toNat ≤ 512 := by
  obtain ⟨h0, h1, h2, h3⟩ := linkN hC
  obtain ⟨_, _, _, e, h5⟩ := place_ok hC
  have hge : a ≤ placeE l a := by rw [e]; exact (plcA_facts l a (namesOf l)).2.1
  have h2 := h2 hge
  rw [w64 (x := placeE l a - a) (by omega) (by omega), h2, w64 (by omega) (by omega)]
  omega
theorem impl_Link (l : List GObj) (a : Int) (hl : l.length ≤ 1099511627776) (hf : ∀ o ∈ l, GObj.fit o) (hk : ∀ o ∈ l, GObj.ok o) (hB : (secL l).length ≤ 1048576) (hW : cntS wordsS (secL l) ≤ 1048576) (hG : (glbL l).length ≤ 1048576) (hA : (glA l).length ≤ 1048576) : Con 95 [.ro 2 (GObj.ros l), .int .i64 a] (.tup [.ow 1 (GInt.ows (linkV l a).1), .int .i64 (linkV l a).2]) [none, none] := by
  have lm : (GObj.ros l).length = l.length := by simp
  have c := impl_globsOf l a hl hf hk hB hW hG
  refine con Tryz.func95 ?_
  by_cases h1 : (gAll l a).2.2 ≠ 0
  · rw [globsR, if_neg h1] at c
    rw [linkV_code h1]
    refine ⟨[.ro, .ro], .tup [.ow 1 [], .ow 1 [], .ow 3 [], .int .i64 0, .int .i64 (gAll l a).2.2], [none, none], c, trivial, fun h2 => ?_, fun h2 => absurd (by simpa using h2) h1⟩
    exact ⟨.refl _, trivial⟩
  have h1 := Classical.not_not.1 h1
  rw [globsR, if_pos h1] at c
  have hC := gAll_zero h1
  obtain ⟨hp, hadr, _, _, _⟩ := place_ok hC
  have hat := place_at hC
  have hpl := placeL_len l a hB
  obtain ⟨hN1, hN2⟩ := link_num hC
  have hgl := gAll_len l a
  refine ⟨[.ro, .ro], .tup [.ow 1 (GString.ows (gAll l a).1), .ow 1 (GInt.ows (gAll l a).2.1), .ro 3 (GPlaced.ros (placeL l a)), .int .i64 (placeE l a), .int .i64 0], [none, none], c, trivial, fun h2 => absurd h2 (by decide), fun h2 => ?_⟩
  refine ⟨[.ro], .ow 1 (GString.ows (lackV l)), [none], impl_Lacks l hl hf hp hA, trivial, fun h3 => ?_, fun h3 => ?_⟩ <;> simp only [str_len, decide_eq_true_eq, decide_eq_false_iff_not] at h3
  · have h3 : lackV l ≠ [] := fun e => by rw [e] at h3; exact absurd h3 (by decide)
    rw [linkV_lack h1 h3]
    exact ⟨.refl _, trivial⟩
  have h3 : lackV l = [] := List.length_eq_zero_iff.1 (by omega)
  have lw : linkW l a = lfold l (placeL l a) (gAll l a).1 (gAll l a).2.1 a (List.replicate ((placeE l a - a).tdiv 2).toNat 0) (cat (wrdS l) (placeL l a)) := rfl
  have hlen := fun P W (hP : lfold l (placeL l a) (gAll l a).1 (gAll l a).2.1 a (List.replicate ((placeE l a - a).tdiv 2).toNat 0) P = some W) => (lfold_len P W hP).trans List.length_replicate
  generalize hW0 : List.replicate ((placeE l a - a).tdiv 2).toNat (0 : Int) = W0 at *
  generalize hns : (gAll l a).1 = ns at *
  generalize hvs : (gAll l a).2.1 = vs at *
  generalize hpp : placeL l a = p at *
  refine ⟨by decide, rfl, by rw [hN1]; exact Int.natCast_nonneg _, by rw [hN1]; show ((((placeE l a - a).tdiv 2).toNat : Nat) : Int) * 8 ≤ _; omega, ?_⟩
  refine ⟨{ t : Nat × List Int // t.1 ≤ p.length ∧ lfold l p ns vs a W0 (cat (wrdS l) (p.take t.1)) = some t.2 }, fun t => ⟨[(0, .ro 2 (GObj.ros l)), (1, .int .i64 a), (6, .own 0), (7, .own 1), (8, .ro 3 (GPlaced.ros p)), (11, .own 2), (40, .ro 3 (GPlaced.ros p)), (41, .int .i64 p.length), (42, .int .i64 t.1.1)], [(0, .rows 1 (GString.ows ns) []), (1, .rows 1 (GInt.ows vs) []), (2, .rows 1 (GInt.ows t.1.2) [])]⟩, fun t => p.length - t.1.1, ⟨(0, W0), Nat.zero_le _, rfl⟩, ?_, ?_⟩
  · refine ⟨rfl, rfl, rfl, rfl, congrArg (AV.int .i64) (by simp), rfl, rfl, .refl _, rfl, .refl _, rfl, SimRows.of_eq ?_, trivial⟩
    rw [← hW0, hN1, Int.toNat_natCast]
    show List.replicate _ _ = List.map GInt.ow (List.replicate _ _)
    rw [List.map_replicate]; rfl
  · rintro ⟨⟨i, W⟩, hi, hc⟩
    dsimp only at hi hc ⊢
    refine ⟨fun h => ?_, fun h => ?_⟩ <;> simp only [decide_eq_true_eq, decide_eq_false_iff_not] at h
    · have hi : i < p.length := by omega
      obtain ⟨o, s, m0, mo, hom, s0, so, hsm, hws, q1, q2⟩ := hat _ (List.getElem_mem hi)
      have hrp : (GPlaced.ros p)[i]? = some (GPlaced.ro p[i]) := map_get _ _ hi
      have hnx := cat_take (wrdS l) p i hi
      have hpre := wrd_pre l p i hi
      have hwl := wrdS_len l p[i]
      have hwt := wrdS_take l p[i]
      obtain ⟨x, hx⟩ : ∃ x, x = p[i] := ⟨_, rfl⟩
      simp only [← hx] at m0 mo s0 so hws q1 q2 hrp hnx hpre hwl hwt
      have hro := obj_row mo
      have hso := sect_row so
      have fs := GSect.fit_un ((GObj.fit_un (hf o hom)).1.2 s hsm)
      have ks := GSect.ok_un ((GObj.ok_un (hk o hom)).1.2 s hsm)
      have lW : (GExpr.ros s.words).length = s.words.length := ros_len s.words
      refine ⟨Int.natCast_nonneg _, _, hrp, ?_⟩
      refine ⟨[.ro, .ro, .ro], .ro 1 (GInt.ros (basesOf l p x.mod)), [none, none, none], (impl_BasesOf l p x.mod hl hpl hf).sim (by simp) (int_ro _), trivial, ?_⟩
      refine ⟨m0, _, hro, s0, _, hso, by kernel_rfl, ?_⟩
      refine ⟨{ t : Nat × List Int // t.1 ≤ s.words.length ∧ lfold l p ns vs a W0 (cat (wrdS l) (p.take i) ++ (wrdS l x).take t.1) = some t.2 }, fun t => ⟨[(0, .ro 2 (GObj.ros l)), (1, .int .i64 a), (6, .own 0), (7, .own 1), (8, .ro 3 (GPlaced.ros p)), (11, .own 2), (13, .ptr 3 0 0), (14, .ro 1 (GInt.ros (basesOf l p x.mod))), (40, .ro 3 (GPlaced.ros p)), (41, .int .i64 p.length), (42, .int .i64 i), (61, .ro 4 (GExpr.ros s.words)), (62, .int .i64 s.words.length), (63, .int .i64 t.1.1)], [(0, .rows 1 (GString.ows ns) []), (1, .rows 1 (GInt.ows vs) []), (2, .rows 1 (GInt.ows t.1.2) []), (3, .box (GPlaced.ro x) [])]⟩, fun t => s.words.length - t.1.1, ⟨(0, W), Nat.zero_le _, by rw [List.take_zero, List.append_nil]; exact hc⟩, ?_, ?_⟩
      · exact ⟨rfl, rfl, rfl, rfl, rfl, rfl, rfl, rfl, rfl, rfl, congrArg (AV.int .i64) (by rw [lW]), rfl, rfl, .refl _, rfl, .refl _, rfl, .refl _, .refl _, trivial⟩
      · rintro ⟨⟨k, V⟩, hk, hc2⟩
        dsimp only at hk hc2 ⊢
        have hVl := hlen _ _ hc2
        refine ⟨fun h => ?_, fun h => ?_⟩ <;> simp only [decide_eq_true_eq, decide_eq_false_iff_not] at h
        · have hk : k < s.words.length := by omega
          have hkw : k < (wordsAt l x).length := by rw [hws]; exact hk
          have hrw : (GExpr.ros s.words)[k]? = some (GExpr.ro s.words[k]) := ros_get s.words k hk
          have ew : (wordsAt l x)[k] = s.words[k] := by simp only [hws]
          have hst := hwt k hkw
          rw [ew] at hst
          have hP1 : cat (wrdS l) (p.take i) ++ (wrdS l x).take (k + 1) = (cat (wrdS l) (p.take i) ++ (wrdS l x).take k) ++ [(x, k, s.words[k])] := by rw [hst, ← List.append_assoc]
          obtain ⟨N, hN⟩ := hpre (k + 1)
          have hsn := lfold_snoc l p ns vs a W0 (cat (wrdS l) (p.take i) ++ (wrdS l x).take k) (x, k, s.words[k])
          rw [← hP1, hc2, lstep, Option.bind_some] at hsn
          have cW := impl_WorthX (basesOf l p x.mod) ns vs (by omega) (by omega) s.words[k] (fs.2 _ (List.getElem_mem hk)) (ks.2.2.2 _ (List.getElem_mem hk))
          refine ⟨Int.natCast_nonneg _, _, hrw, ?_⟩
          rcases hw : worthX (wW (basesOf l p x.mod)) (wG ns vs) s.words[k] with _ | n <;> rw [hw] at cW hsn
          · refine ⟨[.ro, .ro, .ro, .ro], .tup [.int .i64 0, .ff], [none, none, none, none], by rw [GString.roo, GInt.roo]; exact cW, ⟨⟨trivial, trivial, trivial⟩, trivial⟩, ?_⟩
            have hnone : linkW l a = none := by
              rw [lw, hN]
              exact lfold_stop hsn
            rw [linkV_none h1 h3 hnone]
            exact ⟨.refl _, trivial⟩
          · refine ⟨[.ro, .ro, .ro, .ro], .tup [.int .i64 n, .tt], [none, none, none, none], by rw [GString.roo, GInt.roo]; exact cW, ⟨⟨trivial, trivial, trivial⟩, trivial⟩, ?_⟩
            obtain ⟨e1, e2⟩ := link_at hC q1 q2 hk
            have hlt : ((x.pos - a).tdiv 2).toNat + k < V.length := by omega
            refine ⟨by decide, by rw [e1]; exact Int.natCast_nonneg _, by rw [e1, int_len]; omega, _, (by rw [e1, Int.toNat_natCast]; exact map_get (f := GInt.ow) V _ hlt), ?_⟩
            refine ⟨⟨(k + 1, V.set (((x.pos - a).tdiv 2).toNat + k) n), hk, hsn⟩, Nat.sub_succ_lt_self _ _ hk, rfl, rfl, rfl, rfl, rfl, rfl, rfl, rfl, rfl, rfl, rfl, congrArg (AV.int .i64) (w64 (by omega) (by omega)), rfl, .refl _, rfl, .refl _, rfl, SimRows.of_eq ?_, .refl _, trivial⟩
            rw [e1, Int.toNat_natCast]
            exact List.map_set.symm
        · have hk : k = s.words.length := by omega
          subst hk
          rw [List.take_of_length_le (l := wrdS l x) (by rw [hwl, hws]; exact Nat.le_refl _), ← hnx] at hc2
          exact ⟨⟨(i + 1, V), hi, hc2⟩, Nat.sub_succ_lt_self _ _ hi, rfl, rfl, rfl, rfl, rfl, congrArg (AV.int .i64) (w64 (by omega) (by omega)), rfl, .refl _, rfl, .refl _, rfl, .refl _, trivial⟩
    · have hi : i = p.length := by omega
      subst hi
      rw [List.take_length] at hc
      rw [linkV_some h1 h3 (lw.trans hc)]
      exact ⟨.refl _, trivial⟩
theorem obj1_ro (o : GObj) : toRoRows [[AV.ro 3 (GSect.ros o.sects), AV.ro 5 (GGlob.ros o.globs)]] = GObj.ros [o] := by
  show toRoRows (GObj.ros [o]) = GObj.ros [o]
  rw [← GObj.roo, toRoRows_idem]
theorem one_bulk (o : GObj) : (secL [o]).length + cntS wordsS (secL [o]) ≤ GObj.bulk o ∧ (glbL [o]).length ≤ GObj.bulk o ∧ (glA [o]).length ≤ GObj.bulk o := by
  have h1 : (secL [o]).length + cntS wordsS (secL [o]) ≤ bulkS GSect.bulk o.sects := by
    have e : secL [o] = (o.sects.zipIdx 0).map fun x => ((0, x.2, x.1) : GSec) := by simp [secL, secO]
    rw [e]
    exact secO_bulk 0 o.sects 0
  have h2 : (glbL [o]).length = o.globs.length := by simp [glbL, glbO]
  have h3 := bulkS_len GGlob.bulk o.globs
  have h4 := glO_bulk o
  have h5 : (glA [o]).length = (glO o).length := by simp [glA, cat]
  have h6 := GObj.bulk_un o
  omega
theorem spec_Link (l : List GObj) (a : Int) (hl : l.length ≤ 1099511627776) (hf : ∀ o ∈ l, GObj.fit o) (hk : ∀ o ∈ l, GObj.ok o) (hB : (secL l).length ≤ 1048576) (hW : cntS wordsS (secL l) ≤ 1048576) (hG : (glbL l).length ≤ 1048576) (hA : (glA l).length ≤ 1048576) : Con 92 [.ro 2 (GObj.ros l), .int .i64 a] (.tup [.ow 1 (GInt.ows (linkV l a).1), .int .i64 (linkV l a).2]) [none, none] := by
  have lm : (GObj.ros l).length = l.length := by simp
  refine con Tryz.func92 ?_
  refine ⟨[.ro, .ro], .tup [.ro 3 (GPlaced.ros (placeL l a)), .int .i64 (placeE l a), .int .i64 (placeC l a)], [none, none], spec_PlaceAll l a hl hf hk hB hW, trivial, fun h => ?_, fun h => ?_⟩ <;> simp only [decide_eq_true_eq, decide_eq_false_iff_not] at h
  · have e := gAll_bad h
    rw [linkV_code (by rw [e]; exact h), e]
    exact ⟨.refl _, trivial⟩
  have hC : placeC l a = 0 := Classical.not_not.1 h
  have hA0 := gAll_fine hC
  have hpl := placeL_len l a hB
  have cG := spec_l21Globs l (placeL l a) hl hpl hf hk hG
  rw [← hA0] at cG
  by_cases h1 : (gAll l a).2.2 ≠ 0
  · rw [linkV_code h1]
    refine ⟨[.ro, .ro], .tup [.ow 1 (GString.ows (gAll l a).1), .ow 1 (GInt.ows (gAll l a).2.1), .int .i64 (gAll l a).2.2], [none, none], cG, trivial, fun h2 => ?_, fun h2 => absurd (by simpa using h2) h1⟩
    exact ⟨.refl _, trivial⟩
  have h1 := Classical.not_not.1 h1
  rw [h1] at cG
  obtain ⟨hp, hadr, _, _, _⟩ := place_ok hC
  have hat := place_at hC
  obtain ⟨hN1, hN2⟩ := link_num hC
  have hgl := gAll_len l a
  refine ⟨[.ro, .ro], .tup [.ow 1 (GString.ows (gAll l a).1), .ow 1 (GInt.ows (gAll l a).2.1), .int .i64 0], [none, none], cG, trivial, fun h2 => absurd h2 (by decide), fun h2 => ?_⟩
  have lk0 : (GString.ros (lackV l)).length = (lackV l).length := by simp
  refine ⟨[.ro], .ro 1 (GString.ros (lackV l)), [none], spec_Lacks l hl hf hp hA, trivial, fun h3 => ?_, fun h3 => ?_⟩ <;> simp only [lk0, decide_eq_true_eq, decide_eq_false_iff_not] at h3
  · have h3 : lackV l ≠ [] := fun e => by rw [e] at h3; exact absurd h3 (by decide)
    rw [linkV_lack h1 h3]
    exact ⟨.refl _, trivial⟩
  have h3 : lackV l = [] := List.length_eq_zero_iff.1 (by omega)
  have lw : linkW l a = lfold l (placeL l a) (gAll l a).1 (gAll l a).2.1 a (List.replicate ((placeE l a - a).tdiv 2).toNat 0) (cat (wrdS l) (placeL l a)) := rfl
  have hlen := fun P W (hP : lfold l (placeL l a) (gAll l a).1 (gAll l a).2.1 a (List.replicate ((placeE l a - a).tdiv 2).toNat 0) P = some W) => (lfold_len P W hP).trans List.length_replicate
  generalize hW0 : List.replicate ((placeE l a - a).tdiv 2).toNat (0 : Int) = W0 at *
  generalize hns : (gAll l a).1 = ns at *
  generalize hvs : (gAll l a).2.1 = vs at *
  generalize hpp : placeL l a = p at *
  have lp : (GPlaced.ros p).length = p.length := by simp
  refine ⟨by decide, rfl, by rw [hN1]; exact Int.natCast_nonneg _, by rw [hN1]; show ((((placeE l a - a).tdiv 2).toNat : Nat) : Int) * 8 ≤ _; omega, ?_⟩
  refine ⟨{ t : Nat × List Int // t.1 ≤ p.length ∧ lfold l p ns vs a W0 (cat (wrdS l) (p.take t.1)) = some t.2 }, fun t => ⟨[(0, .ro 2 (GObj.ros l)), (1, .int .i64 a), (6, .ro 3 (GPlaced.ros p)), (9, .own 0), (10, .own 1), (12, .own 2), (13, .int .i64 t.1.1)], [(0, .rows 1 (GString.ows ns) []), (1, .rows 1 (GInt.ows vs) []), (2, .rows 1 (GInt.ows t.1.2) [])]⟩, fun t => p.length - t.1.1, ⟨(0, W0), Nat.zero_le _, rfl⟩, ?_, ?_⟩
  · refine ⟨rfl, rfl, rfl, rfl, rfl, .refl _, rfl, .refl _, rfl, SimRows.of_eq ?_, trivial⟩
    rw [← hW0, hN1, Int.toNat_natCast]
    show List.replicate _ _ = List.map GInt.ow (List.replicate _ _)
    rw [List.map_replicate]; rfl
  · rintro ⟨⟨i, W⟩, hi, hc⟩
    dsimp only at hi hc ⊢
    refine ⟨fun h => ?_, fun h => ?_⟩ <;> simp only [lp, decide_eq_true_eq, decide_eq_false_iff_not] at h
    · have hi : i < p.length := by omega
      obtain ⟨o, s, m0, mo, hom, s0, so, hsm, hws, q1, q2⟩ := hat _ (List.getElem_mem hi)
      have hrp : (GPlaced.ros p)[i]? = some (GPlaced.ro p[i]) := map_get _ _ hi
      have hnx := cat_take (wrdS l) p i hi
      have hpre := wrd_pre l p i hi
      have hwl := wrdS_len l p[i]
      have hwt := wrdS_take l p[i]
      obtain ⟨x, hx⟩ : ∃ x, x = p[i] := ⟨_, rfl⟩
      simp only [← hx] at m0 mo s0 so hws q1 q2 hrp hnx hpre hwl hwt
      have hro := obj_row mo
      have hso := sect_row so
      have fs := GSect.fit_un ((GObj.fit_un (hf o hom)).1.2 s hsm)
      have ks := GSect.ok_un ((GObj.ok_un (hk o hom)).1.2 s hsm)
      have lW : (GExpr.ros s.words).length = s.words.length := ros_len s.words
      refine ⟨Int.natCast_nonneg _, _, hrp, ?_⟩
      refine ⟨[.ro, .ro, .ro], .ro 1 (GInt.ros (basesOf l p x.mod)), [none, none, none], (spec_BasesOf l p x.mod hl hpl hf).sim (by simp) (int_ro _), trivial, ?_⟩
      refine ⟨Int.natCast_nonneg _, _, hrp, m0, _, hro, Int.natCast_nonneg _, _, hrp, s0, _, hso, by kernel_rfl, ?_⟩
      refine ⟨{ t : Nat × List Int // t.1 ≤ s.words.length ∧ lfold l p ns vs a W0 (cat (wrdS l) (p.take i) ++ (wrdS l x).take t.1) = some t.2 }, fun t => ⟨[(0, .ro 2 (GObj.ros l)), (1, .int .i64 a), (6, .ro 3 (GPlaced.ros p)), (9, .own 0), (10, .own 1), (12, .own 2), (13, .int .i64 i), (14, .ro 1 (GInt.ros (basesOf l p x.mod))), (15, .ro 4 (GExpr.ros s.words)), (16, .int .i64 t.1.1)], [(0, .rows 1 (GString.ows ns) []), (1, .rows 1 (GInt.ows vs) []), (2, .rows 1 (GInt.ows t.1.2) [])]⟩, fun t => s.words.length - t.1.1, ⟨(0, W), Nat.zero_le _, by rw [List.take_zero, List.append_nil]; exact hc⟩, ?_, ?_⟩
      · exact ⟨rfl, rfl, rfl, rfl, rfl, rfl, rfl, rfl, .refl _, rfl, .refl _, rfl, .refl _, trivial⟩
      · rintro ⟨⟨k, V⟩, hk, hc2⟩
        dsimp only at hk hc2 ⊢
        have hVl := hlen _ _ hc2
        refine ⟨fun h => ?_, fun h => ?_⟩ <;> simp only [lW, decide_eq_true_eq, decide_eq_false_iff_not] at h
        · have hk : k < s.words.length := by omega
          have hkw : k < (wordsAt l x).length := by rw [hws]; exact hk
          have hrw : (GExpr.ros s.words)[k]? = some (GExpr.ro s.words[k]) := ros_get s.words k hk
          have ew : (wordsAt l x)[k] = s.words[k] := by simp only [hws]
          have hst := hwt k hkw
          rw [ew] at hst
          have hP1 : cat (wrdS l) (p.take i) ++ (wrdS l x).take (k + 1) = (cat (wrdS l) (p.take i) ++ (wrdS l x).take k) ++ [(x, k, s.words[k])] := by rw [hst, ← List.append_assoc]
          obtain ⟨N, hN⟩ := hpre (k + 1)
          have hsn := lfold_snoc l p ns vs a W0 (cat (wrdS l) (p.take i) ++ (wrdS l x).take k) (x, k, s.words[k])
          rw [← hP1, hc2, lstep, Option.bind_some] at hsn
          have cW := spec_WorthX (basesOf l p x.mod) ns vs (by omega) (by omega) s.words[k] (fs.2 _ (List.getElem_mem hk)) (ks.2.2.2 _ (List.getElem_mem hk))
          refine ⟨Int.natCast_nonneg _, _, hrw, ?_⟩
          rcases hw : worthX (wW (basesOf l p x.mod)) (wG ns vs) s.words[k] with _ | n <;> rw [hw] at cW hsn
          · refine ⟨[.ro, .ro, .ro, .ro], .tup [.int .i64 0, .ff], [none, none, none, none], by rw [GString.roo, GInt.roo]; exact cW, ⟨⟨trivial, trivial, trivial⟩, trivial⟩, ?_⟩
            have hnone : linkW l a = none := by
              rw [lw, hN]
              exact lfold_stop hsn
            rw [linkV_none h1 h3 hnone]
            exact ⟨.refl _, trivial⟩
          · refine ⟨[.ro, .ro, .ro, .ro], .tup [.int .i64 n, .tt], [none, none, none, none], by rw [GString.roo, GInt.roo]; exact cW, ⟨⟨trivial, trivial, trivial⟩, trivial⟩, ?_⟩
            obtain ⟨e1, e2⟩ := link_at hC q1 q2 hk
            have hlt : ((x.pos - a).tdiv 2).toNat + k < V.length := by omega
            refine ⟨Int.natCast_nonneg _, _, hrp, by decide, by rw [e1]; exact Int.natCast_nonneg _, by rw [e1, int_len]; omega, _, (by rw [e1, Int.toNat_natCast]; exact map_get (f := GInt.ow) V _ hlt), ?_⟩
            refine ⟨⟨(k + 1, V.set (((x.pos - a).tdiv 2).toNat + k) n), hk, hsn⟩, Nat.sub_succ_lt_self _ _ hk, rfl, rfl, rfl, rfl, rfl, rfl, congrArg (AV.int .i64) (w64 (by omega) (by omega)), rfl, .refl _, rfl, .refl _, rfl, SimRows.of_eq ?_, trivial⟩
            rw [e1, Int.toNat_natCast]
            exact List.map_set.symm
        · have hk : k = s.words.length := by omega
          subst hk
          rw [List.take_of_length_le (l := wrdS l x) (by rw [hwl, hws]; exact Nat.le_refl _), ← hnx] at hc2
          exact ⟨⟨(i + 1, V), hi, hc2⟩, Nat.sub_succ_lt_self _ _ hi, rfl, rfl, rfl, congrArg (AV.int .i64) (w64 (by omega) (by omega)), rfl, .refl _, rfl, .refl _, rfl, .refl _, trivial⟩
    · have hi : i = p.length := by omega
      subst hi
      rw [List.take_length] at hc
      rw [linkV_some h1 h3 (lw.trans hc)]
      exact ⟨.refl _, trivial⟩
theorem impl_LinkOne (o : GObj) (a : Int) (hf : GObj.fit o) (hk : GObj.ok o) (hB : (secL [o]).length ≤ 1048576) (hW : cntS wordsS (secL [o]) ≤ 1048576) (hG : (glbL [o]).length ≤ 1048576) (hA : (glA [o]).length ≤ 1048576) : Con 37 [.agg (GObj.ro o), .int .i64 a] (.tup [.ow 1 (GInt.ows (linkV [o] a).1), .int .i64 (linkV [o] a).2]) [none, none] := by
  have c := impl_Link [o] a (show 1 ≤ 1099511627776 from by decide) (fun x hx => by rw [List.mem_singleton.1 hx]; exact hf) (fun x hx => by rw [List.mem_singleton.1 hx]; exact hk) hB hW hG hA
  refine con Tryz.func37 ?_
  refine ⟨[.frz, .ro], .tup [.ow 1 (GInt.ows (linkV [o] a).1), .int .i64 (linkV [o] a).2], [none, none], by rw [obj1_ro o]; exact c, trivial, ?_⟩
  exact ⟨.refl _, trivial⟩
theorem spec_LinkOne (o : GObj) (a : Int) (hf : GObj.fit o) (hk : GObj.ok o) (hB : (secL [o]).length ≤ 1048576) (hW : cntS wordsS (secL [o]) ≤ 1048576) (hG : (glbL [o]).length ≤ 1048576) (hA : (glA [o]).length ≤ 1048576) : Con 35 [.agg (GObj.ro o), .int .i64 a] (.tup [.ow 1 (GInt.ows (linkV [o] a).1), .int .i64 (linkV [o] a).2]) [none, none] := by
  have c := spec_Link [o] a (show 1 ≤ 1099511627776 from by decide) (fun x hx => by rw [List.mem_singleton.1 hx]; exact hf) (fun x hx => by rw [List.mem_singleton.1 hx]; exact hk) hB hW hG hA
  refine con Tryz.func35 ?_
  refine ⟨[.frz, .ro], .tup [.ow 1 (GInt.ows (linkV [o] a).1), .int .i64 (linkV [o] a).2], [none, none], by rw [obj1_ro o]; exact c, trivial, ?_⟩
  exact ⟨.refl _, trivial⟩
end Go.Proofs.VI
