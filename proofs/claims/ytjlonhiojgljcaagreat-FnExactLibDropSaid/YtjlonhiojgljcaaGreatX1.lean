/- Contracts of functions, and what they rest on: frz libsort. -/
import Derived.Test.YtjlonhiojgljcaaGreatD1
import Derived.Sort.Row
import Derived.Sort.Grow
import Derived.Sort.EncStr
set_option linter.unusedVariables false
set_option linter.unusedSimpArgs false
set_option maxRecDepth 10000
set_option maxHeartbeats 4000000
namespace Go.Proofs.VI
open Go
theorem Contract.sim {P : Program} {f : FuncId} {args : List AV} {res res' : AV} {outs : List (Option AV)} (ho : ∀ o ∈ outs, o = none) (hs : Sim res res') (h : Contract P f args res outs) : Contract P f args res' outs := by
  intro κ w vals hlow hfr hrel
  refine callRun_mono (fun v w' hR => ?_) (h κ w vals hlow hfr hrel)
  obtain ⟨κ1, hrv, hro, ST, hlow', hfr'⟩ := hR
  obtain ⟨κ2, x2, hrv2⟩ := Sim_sound w' hs noL κ1 (args.length, []) _ hrv
  have nones : ∀ {outs : List (Option AV)} {j : Nat} {vals : List Value}, (∀ o ∈ outs, o = none) → relOuts w' κ2 j outs vals := fun {outs} => by
    induction outs with
    | nil => intro j vals _; trivial
    | cons o outs ih =>
      intro j vals hn
      cases vals with
      | nil => trivial
      | cons u us =>
        have e := hn o List.mem_cons_self
        subst e
        exact ⟨trivial, ih fun o ho => hn o (List.mem_cons_of_mem _ ho)⟩
  refine ⟨κ2, hrv2, nones ho, ST.trans ⟨rfl, rfl, rfl, Nat.le_refl _, fun _ _ _ => rfl, fun b hb => (x2.imm w' b hb).1, fun b _ hb => ?_, fun _ C _ _ h => ⟨C, h, rfl⟩⟩, fun b g hb => ?_, fun b id p hb => ?_⟩
  · rcases x2 b with e | ⟨_, K, _, e⟩
    · rw [e]; exact hb
    · rw [hb] at e; cases e
  · rcases x2 b with e | ⟨_, K, _, e⟩
    · rw [e] at hb; exact hlow' b g hb
    · exact hlow' b _ e
  · rcases x2 b with e | ⟨e, _⟩
    · rw [e] at hb; exact hfr' b id p hb
    · rw [e] at hb; cases hb
/-- A world behind a call that rewrote cells of one block, and laid new blocks. -/
structure RowEnd (w w' : World) (b : Nat) (Q : Array Value → Array Value → Prop) : Prop where
  os : w'.os = w.os
  tape : w'.tape = w.tape
  output : w'.output = w.output
  size : w.heap.size ≤ w'.heap.size
  other : ∀ b', b' < w.heap.size → b' ≠ b → w'.heap[b']? = w.heap[b']?
  row : ∀ C t fr, w.heap[b]? = some (.cells C t fr) → ∃ C', w'.heap[b]? = some (.cells C' t fr) ∧ C'.size = C.size ∧ Q C C'
theorem RowEnd.mono {w w' : World} {b : Nat} {Q R : Array Value → Array Value → Prop} (h : RowEnd w w' b Q) (hh : ∀ C C', Q C C' → R C C') : RowEnd w w' b R :=
  ⟨h.os, h.tape, h.output, h.size, h.other, fun C t fr hb => by obtain ⟨C', a, b, c⟩ := h.row C t fr hb; exact ⟨C', a, b, hh C C' c⟩⟩
theorem rowEnd_put {α : Type} [Inhabited α] (enc : α → Value) (w : World) (n blk off : Nat) (d : Array α) (os : Array Obj) (hb : blk < w.heap.size) :
    RowEnd w (Go.Sort.grow (Go.Sort.putRow enc (Go.Sort.ahead w n) blk off d) os) blk fun C C' => ∀ j, j < d.size → off + j < C.size → C'[off + j]? = some (enc d[j]!) := by
  have hsz : (Go.Sort.putRow enc (Go.Sort.ahead w n) blk off d).heap.size = w.heap.size := by simp
  have hg : ∀ b', b' < w.heap.size → (Go.Sort.grow (Go.Sort.putRow enc (Go.Sort.ahead w n) blk off d) os).heap[b']? = (Go.Sort.putRow enc (Go.Sort.ahead w n) blk off d).heap[b']? := fun b' h => by
    show ((Go.Sort.putRow enc (Go.Sort.ahead w n) blk off d).heap ++ os)[b']? = _
    rw [Array.getElem?_append_left (by rw [hsz]; exact h)]
  have hp : ∀ b' : Nat, (Go.Sort.putRow enc (Go.Sort.ahead w n) blk off d).heap[b']? = if blk = b' then w.heap[b']?.map (Go.Sort.onCells (Go.Sort.putCells enc off d)) else w.heap[b']? := fun b' => by
    show (w.heap.modify blk _)[b']? = _
    rw [Array.getElem?_modify]
  refine ⟨rfl, rfl, rfl, ?_, fun b' h hne => ?_, fun C t fr h => ?_⟩
  · rw [Go.Sort.size_grow, hsz]; exact Nat.le_add_right _ _
  · rw [hg b' h, hp, if_neg (Ne.symm hne)]
  · refine ⟨Go.Sort.putCells enc off d C, ?_, by simp [Go.Sort.putCells], fun j hj hs => ?_⟩
    · rw [hg blk hb, hp, if_pos rfl, h]; rfl
    · simp only [Go.Sort.putCells, Array.getElem?_mapIdx, Array.getElem?_eq_getElem hs, Option.map_some]
      rw [if_pos ⟨by omega, by omega⟩, show off + j - off = j by omega]
theorem relOuts_nones {w : World} {κ : Gh} : ∀ {ex : List AV} {j : Nat} {vals : List Value}, relOuts w κ j (ex.map fun _ => none) vals
  | [], _, _ => trivial
  | _ :: ex, j, [] => trivial
  | _ :: ex, j, u :: us => ⟨trivial, relOuts_nones⟩
/-- What sorts a row of values that hold no memory. -/
theorem contract_sort {P : Program} {f : FuncId} {α : Type} {k : Nat} (hk : 0 < k) (fA : α → List AV) (enc : α → List Value) (h1 : ∀ x, (fA x).length = k) (h2 : ∀ x, (enc x).length = k)
    (hval : ∀ x (j : Nat) (v : AV), (fA x)[j]? = some v → ∀ (w : World) (κ : Gh) (K : Option Key) (u : Value), relV w κ noL K v u ↔ (enc x)[j]? = some u)
    (ex : List AV) (exv : List Value) (hex : ∀ w κ us, relA w κ 1 ex us → us = exv)
    (enters : ∀ args w, (callFunc f args).run P w = .ok (.enter f args) w)
    (l l' : List α) (hll : l'.length = l.length)
    (c0 : l = [] → ∀ p cap w, Calls P f (Value.slice p 0 cap :: exv).toArray w fun e w' => e = .returned (.tuple #[]) ∧ w' = w)
    (c1 : l ≠ [] → ∀ blk off cap w, (∀ (i : Nat) x, l[i]? = some x → ∀ (j : Nat) v, (enc x)[j]? = some v → w.cell? ⟨blk, off + (i * k + j), none⟩ = some v ∧ w.frozen? ⟨blk, off + (i * k + j), none⟩ = false) → blk < w.heap.size → l.length ≤ cap →
      Calls P f (Value.slice (some ⟨blk, off, none⟩) l.length cap :: exv).toArray w fun e w' => e = .returned (.tuple #[]) ∧ RowEnd w w' blk fun C C' => ∀ (i : Nat) x, l'[i]? = some x → ∀ (j : Nat) v, (enc x)[j]? = some v → off + (i * k + j) < C.size → C'[off + (i * k + j)]? = some v) :
    Contract P f (.ow k (l.map fA) :: ex) (.tup []) (some (.ow k (l'.map fA)) :: ex.map fun _ => none) := by
  intro κ w vals hlow hfr hrel
  obtain ⟨u, us, rfl, hu, hus⟩ := hrel
  have hus := hex w κ us hus
  subst hus
  obtain ⟨A, cap, rfl, hcap, hmem⟩ := hu
  have hlen : (l.map fA).length = l.length := by simp
  have hlen' : (l'.map fA).length = l.length := by simp [hll]
  rw [hlen] at hcap
  have stp0 : ∀ w', w' = w → ∃ κ', relV w' κ' noL (some ((AV.ow k (l.map fA) :: ex).length, [])) (.tup []) (.tuple #[]) ∧ relOuts w' κ' 0 (some (.ow k (l.map fA)) :: ex.map fun _ => none) (Value.slice A (l.map fA).length cap :: us) ∧ Stp κ w κ' w' ∧ (∀ b g, κ' b = some g → b < w'.heap.size) ∧ (∀ b id p, κ' b = some (.key (id, p)) → id ≤ (AV.ow k (l.map fA) :: ex).length) := fun w' hw => by
    subst hw
    exact ⟨κ, ⟨[], rfl, rfl⟩, ⟨⟨A, cap, rfl, by rw [hlen]; exact hcap, hmem⟩, relOuts_nones⟩, Stp.refl _ _, hlow, fun b id p hb => Nat.le_of_lt (hfr b id p hb)⟩
  unfold callRun
  rw [enters]
  show Calls _ _ _ _ _
  by_cases hl : l = []
  · have hl' : l' = [] := List.length_eq_zero_iff.1 (by rw [hll, hl]; rfl)
    have h := c0 hl A cap w
    have e0 : (l.map fA).length = 0 := by rw [hl]; rfl
    rw [e0] at stp0 ⊢
    refine h.mono ?_
    rintro e w' ⟨rfl, hw⟩
    refine ⟨_, rfl, ?_⟩
    have := stp0 w' hw
    rw [hl] at this ⊢
    rw [hl']
    exact this
  · have hpos : 0 < l.length := List.length_pos_iff.2 hl
    rcases hmem with h0 | ⟨b, off, C, t, fr, rfl, hb, hf, hown, hsz, hrs⟩
    · omega
    have hown : κ b = some (.key (0, [])) := hown
    have hbl : b < w.heap.size := hlow b _ hown
    have hin : ∀ (i j : Nat), i < l.length → j < k → off + (i * k + j) < C.size := fun i j hi hj => by
      have : (i + 1) * k ≤ cap * k := Nat.mul_le_mul_right k (by omega)
      rw [Nat.add_mul] at this
      omega
    have hcells : ∀ (i : Nat) x, l[i]? = some x → ∀ (j : Nat) v, (enc x)[j]? = some v → w.cell? ⟨b, off + (i * k + j), none⟩ = some v ∧ w.frozen? ⟨b, off + (i * k + j), none⟩ = false := fun i x hx j v hv => by
      have hi : i < l.length := (List.getElem?_eq_some_iff.1 hx).1
      have hj : j < k := by rw [← h2 x]; exact (List.getElem?_eq_some_iff.1 hv).1
      have hrow : (l.map fA)[i]? = some (fA x) := by rw [List.getElem?_map, hx]; rfl
      obtain ⟨_, hr⟩ := relRs_get hrs hrow
      have hjA : (fA x)[j]? = some ((fA x)[j]'(by rw [h1]; exact hj)) := List.getElem?_eq_getElem _
      obtain ⟨u, hu, hrel⟩ := relRow_get hr hjA
      have e := (hval x j _ hjA w κ _ u).1 hrel
      rw [hv] at e
      injection e with e
      subst e
      constructor
      · rw [cell_of_heap hb, ← Nat.add_assoc]; exact hu
      · have := hf (off + (i * k + j)) (hin i j hi hj)
        cases e : w.frozen? ⟨b, off + (i * k + j), none⟩ with
        | false => rfl
        | true => simp [World.frozen?, hb] at e; exact absurd e this
    have h := c1 hl b off cap w hcells hbl hcap
    rw [← hlen] at h
    refine h.mono ?_
    rintro e w' ⟨rfl, hE⟩
    refine ⟨_, rfl, ?_⟩
    obtain ⟨C', hb', hs', hQ⟩ := hE.row C t fr hb
    refine ⟨κ, ⟨[], rfl, rfl⟩, ⟨⟨_, cap, by rw [hlen', ← hlen], by rw [hlen']; exact hcap, .inr ⟨b, off, C', t, fr, rfl, hb', fun i hi => hf i (by rw [← hs']; exact hi), hown, by rw [hs']; exact hsz, ?_⟩⟩, relOuts_nones⟩, ?_, fun b' g hg => Nat.lt_of_lt_of_le (hlow b' g hg) hE.size, fun b' id p hb' => Nat.le_of_lt (hfr b' id p hb')⟩
    · refine relRs_mk fun i row hrow => ?_
      rw [List.getElem?_map] at hrow
      cases hx : l'[i]? with
      | none => rw [hx] at hrow; cases hrow
      | some x =>
        rw [hx] at hrow
        injection hrow with hrow
        subst hrow
        have hi : i < l.length := by rw [← hll]; exact (List.getElem?_eq_some_iff.1 hx).1
        refine ⟨h1 x, relRow_mk fun j v hj => ?_⟩
        have hjk : j < k := by rw [← h1 x]; exact (List.getElem?_eq_some_iff.1 hj).1
        have hv : (enc x)[j]? = some ((enc x)[j]'(by rw [h2]; exact hjk)) := List.getElem?_eq_getElem _
        refine ⟨_, by rw [Nat.add_assoc]; exact hQ i x hx j _ hv (hin i j hi hjk), ?_⟩
        exact (hval x j v hj w' κ _ _).2 hv
    · refine ⟨hE.os, hE.tape, hE.output, hE.size, fun b' hlt hne => hE.other b' hlt fun e => ?_, fun _ h => h, fun _ _ h => h, fun b' C1 t1 fr1 hc => ?_⟩
      · subst e; exact hne _ hown
      · by_cases e : b' = b
        · subst e
          rw [hb] at hc
          injection hc with hc
          injection hc with e1 e2 e3
          subst e1 e2 e3
          exact ⟨C', hb', hs'⟩
        · refine ⟨C1, ?_, rfl⟩
          rw [hE.other b' ?_ e]; exact hc
          have := (Array.getElem?_eq_some_iff.1 hc).1
          exact this
/-- What cuts a row of values that hold no memory, in its own place. -/
theorem contract_cut {P : Program} {f : FuncId} {α : Type} (fA : α → List AV) (enc : α → Value) (h1 : ∀ x, (fA x).length = 1)
    (hval : ∀ x (v : AV), (fA x)[0]? = some v → ∀ (w : World) (κ : Gh) (K : Option Key) (u : Value), relV w κ noL K v u ↔ enc x = u)
    (enters : ∀ args w, (callFunc f args).run P w = .ok (.enter f args) w)
    (l r : List α) (hr : r.length ≤ l.length)
    (c0 : l = [] → ∀ p cap w, Calls P f #[Value.slice p 0 cap] w fun e w' => e = .returned (.slice p 0 cap) ∧ w' = w)
    (c1 : l ≠ [] → ∀ blk off cap w, (∀ (i : Nat) x, l[i]? = some x → w.cell? ⟨blk, off + i, none⟩ = some (enc x) ∧ w.frozen? ⟨blk, off + i, none⟩ = false) → blk < w.heap.size → l.length ≤ cap →
      Calls P f #[Value.slice (some ⟨blk, off, none⟩) l.length cap] w fun e w' => e = .returned (.slice (some ⟨blk, off, none⟩) r.length cap) ∧ RowEnd w w' blk fun C C' => ∀ (i : Nat) x, r[i]? = some x → off + i < C.size → C'[off + i]? = some (enc x)) :
    Contract P f [.ow 1 (l.map fA)] (.ow 1 (r.map fA)) [none] := by
  intro κ w vals hlow hfr hrel
  obtain ⟨u, us, rfl, hu, rfl⟩ := hrel
  obtain ⟨A, cap, rfl, hcap, hmem⟩ := hu
  have hlen : (l.map fA).length = l.length := by simp
  have hlen' : (r.map fA).length = r.length := by simp
  rw [hlen] at hcap
  let κ' : Gh := fun b => match κ b with | some (.key (0, [])) => some (.key (1, [])) | x => x
  have hκ0 : ∀ b, κ b = some (.key (0, [])) → κ' b = some (.key (1, [])) := fun b h => by simp only [κ', h]
  have hκn : ∀ b, κ b = none → κ' b = none := fun b h => by simp only [κ', h]
  have hκi : ∀ b, κ b = some .imm → κ' b = some .imm := fun b h => by simp only [κ', h]
  have hκs : ∀ b g, κ' b = some g → ∃ g', κ b = some g' := fun b g h => by
    cases e : κ b with
    | none => rw [hκn b e] at h; cases h
    | some g' => exact ⟨g', rfl⟩
  have hκk : ∀ b id p, κ' b = some (.key (id, p)) → id ≤ 1 := fun b id p h => by
    simp only [κ'] at h
    split at h
    · injection h with h; injection h with h; injection h with h _; omega
    · have := hfr b id p h; simp at this; omega
  unfold callRun
  rw [enters]
  show Calls _ _ _ _ _
  by_cases hl : l = []
  · have hr0 : r = [] := List.length_eq_zero_iff.1 (by rw [hl] at hr; simpa using hr)
    have h := c0 hl A cap w
    have e0 : (l.map fA).length = 0 := by rw [hl]; rfl
    rw [e0]
    refine h.mono ?_
    rintro e w' ⟨rfl, rfl⟩
    refine ⟨_, rfl, κ', ⟨A, cap, by rw [hr0]; rfl, by rw [hr0]; simp, ?_⟩, ⟨trivial, trivial⟩, ⟨rfl, rfl, rfl, Nat.le_refl _, fun _ _ _ => rfl, hκi, fun b _ => hκn b, fun _ C _ _ h => ⟨C, h, rfl⟩⟩, fun b g hg => ?_, hκk⟩
    · rcases hmem with h0 | ⟨b, off, C, t, fr, rfl, hb, hf, hown, hsz, hrs⟩
      · exact .inl h0
      · exact .inr ⟨b, off, C, t, fr, rfl, hb, hf, hκ0 b hown, hsz, by rw [hr0]; trivial⟩
    · obtain ⟨g', h⟩ := hκs b g hg
      exact hlow b g' h
  · have hpos : 0 < l.length := List.length_pos_iff.2 hl
    rcases hmem with h0 | ⟨b, off, C, t, fr, rfl, hb, hf, hown, hsz, hrs⟩
    · omega
    have hown : κ b = some (.key (0, [])) := hown
    have hbl : b < w.heap.size := hlow b _ hown
    have hin : ∀ i : Nat, i < l.length → off + i < C.size := fun i hi => by omega
    have hcells : ∀ (i : Nat) x, l[i]? = some x → w.cell? ⟨b, off + i, none⟩ = some (enc x) ∧ w.frozen? ⟨b, off + i, none⟩ = false := fun i x hx => by
      have hi : i < l.length := (List.getElem?_eq_some_iff.1 hx).1
      have hrow : (l.map fA)[i]? = some (fA x) := by rw [List.getElem?_map, hx]; rfl
      obtain ⟨_, hr⟩ := relRs_get hrs hrow
      have hjA : (fA x)[0]? = some ((fA x)[0]'(by rw [h1]; decide)) := List.getElem?_eq_getElem _
      obtain ⟨u, hu, hrel⟩ := relRow_get hr hjA
      have e := (hval x _ hjA w κ _ u).1 hrel
      subst e
      constructor
      · rw [cell_of_heap hb]; rw [Nat.mul_one, Nat.add_zero] at hu; exact hu
      · have := hf (off + i) (hin i hi)
        cases e : w.frozen? ⟨b, off + i, none⟩ with
        | false => rfl
        | true => simp [World.frozen?, hb] at e; exact absurd e this
    have h := c1 hl b off cap w hcells hbl hcap
    rw [← hlen] at h
    refine h.mono ?_
    rintro e w' ⟨rfl, hE⟩
    refine ⟨_, rfl, ?_⟩
    obtain ⟨C', hb', hs', hQ⟩ := hE.row C t fr hb
    refine ⟨κ', ⟨_, cap, by rw [hlen'], by rw [hlen']; omega, .inr ⟨b, off, C', t, fr, rfl, hb', fun i hi => hf i (by rw [← hs']; exact hi), hκ0 b hown, by rw [hs']; exact hsz, ?_⟩⟩, ⟨trivial, trivial⟩, ?_, fun b' g hg => ?_, hκk⟩
    · refine relRs_mk fun i row hrow => ?_
      rw [List.getElem?_map] at hrow
      cases hx : r[i]? with
      | none => rw [hx] at hrow; cases hrow
      | some x =>
        rw [hx] at hrow
        injection hrow with hrow
        subst hrow
        have hi : i < l.length := by have := (List.getElem?_eq_some_iff.1 hx).1; omega
        refine ⟨h1 x, relRow_mk fun j v hj => ?_⟩
        have hj0 : j = 0 := by have := (List.getElem?_eq_some_iff.1 hj).1; rw [h1 x] at this; omega
        subst hj0
        refine ⟨enc x, by rw [Nat.mul_one, Nat.add_zero]; exact hQ i x hx (hin i hi), ?_⟩
        exact (hval x v hj w' κ' _ _).2 rfl
    · refine ⟨hE.os, hE.tape, hE.output, hE.size, fun b' hlt hne => hE.other b' hlt fun e => ?_, hκi, fun b' _ => hκn b', fun b' C1 t1 fr1 hc => ?_⟩
      · subst e; exact hne _ hown
      · by_cases e : b' = b
        · subst e
          rw [hb] at hc
          injection hc with hc
          injection hc with e1 e2 e3
          subst e1 e2 e3
          exact ⟨C', hb', hs'⟩
        · refine ⟨C1, ?_, rfl⟩
          rw [hE.other b' ?_ e]; exact hc
          exact (Array.getElem?_eq_some_iff.1 hc).1
    · obtain ⟨g', h⟩ := hκs b' g hg
      exact Nat.lt_of_lt_of_le (hlow b' g' h) hE.size
theorem str_val (x : GString) (v : AV) (hv : (GString.ow x)[0]? = some v) (w : World) (κ : Gh) (K : Option Key) (u : Value) : relV w κ noL K v u ↔ Value.string x = u := by
  have e : v = .str x := by simpa [GString.ro] using hv.symm
  subst e
  exact ⟨fun h => (show u = Value.string x from h).symm, fun h => (show u = Value.string x from h.symm)⟩
end Go.Proofs.VI
