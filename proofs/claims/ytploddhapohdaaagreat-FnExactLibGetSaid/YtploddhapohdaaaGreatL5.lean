/- VI: values, a private heap for each call, and what code comes to; part 5. -/
import Derived.Test.YtploddhapohdaaaGreatL4
section
/- VI: a contract's arguments may be told in other ways. -/
set_option linter.unusedVariables false
set_option linter.unusedSimpArgs false
namespace Go.Proofs.VI
open Go
mutual
/-- Nil slices are rows of nothing; truth values. -/
inductive Le : AV → AV → Prop
  | refl (v : AV) : Le v v
  | nilr (k : Nat) : Le .nils (.ro k [])
  | nilo (k : Nat) : Le .nils (.ow k [])
  | ron (k k' : Nat) : Le (.ro k []) (.ro k' [])
  | tt : Le .tt (.bool true)
  | ff : Le .ff (.bool false)
  | agg {l l' : List AV} : LeL l l' → Le (.agg l) (.agg l')
  | pb {l l' : List AV} : LeL l l' → Le (.pb l) (.pb l')
  | ro {k : Nat} {l l' : List (List AV)} : LeR l l' → Le (.ro k l) (.ro k l')
inductive LeL : List AV → List AV → Prop
  | refl (l : List AV) : LeL l l
  | cons {a b : AV} {l m : List AV} : Le a b → LeL l m → LeL (a :: l) (b :: m)
inductive LeR : List (List AV) → List (List AV) → Prop
  | refl (l : List (List AV)) : LeR l l
  | cons {a b : List AV} {l m : List (List AV)} : LeL a b → LeR l m → LeR (a :: l) (b :: m)
end
theorem LeL.len : ∀ {l m : List AV}, LeL l m → l.length = m.length
  | _, _, .refl l => rfl
  | _, _, .cons y z => by simp [LeL.len z]
theorem LeR.len : ∀ {l m : List (List AV)}, LeR l m → l.length = m.length
  | _, _, .refl l => rfl
  | _, _, .cons y z => by simp [LeR.len z]
mutual
theorem Le.rel {w : World} {κ : Gh} {L : AV → Value → Prop} {a b : AV} (x : Le a b) (K : Option Key) (u : Value) (h : relV w κ L K a u) : relV w κ L K b u := by
  cases x with
  | refl v => exact h
  | nilr k => obtain ⟨A, rfl⟩ := h; exact ⟨A, 0, rfl, Nat.le_refl _, .inl rfl⟩
  | nilo k => obtain ⟨A, rfl⟩ := h; exact ⟨A, 0, rfl, Nat.le_refl _, .inl rfl⟩
  | ron k k' => obtain ⟨A, cap, hu, hl, _⟩ := h; exact ⟨A, cap, hu, hl, .inl rfl⟩
  | tt => exact h
  | ff => exact h
  | agg y => obtain ⟨vs, hu, h⟩ := h; exact ⟨vs, hu, LeL.rel y K 0 vs h⟩
  | pb y =>
    obtain ⟨b, off, C, t, fr, hu, hb, hf, hk, hr⟩ := h
    exact ⟨b, off, C, t, fr, hu, hb, hf, hk, LeL.row y K 0 0 C off hr⟩
  | ro y =>
    obtain ⟨A, cap, hu, hl, hr⟩ := h
    refine ⟨A, cap, by rw [← LeR.len y]; exact hu, by rw [← LeR.len y]; exact hl, ?_⟩
    rcases hr with e | ⟨b, off, C, t, fr, h1, h2, h3, h4⟩
    · exact .inl (List.eq_nil_of_length_eq_zero (by rw [← LeR.len y, e]; rfl))
    · exact .inr ⟨b, off, C, t, fr, h1, h2, h3, LeR.rel y none _ 0 C off h4⟩
theorem LeL.rel {w : World} {κ : Gh} {L : AV → Value → Prop} {l m : List AV} (x : LeL l m) (K : Option Key) (c : Nat) (us : List Value) (h : relL w κ L K c l us) : relL w κ L K c m us := by
  cases x with
  | refl v => exact h
  | cons y z =>
    obtain ⟨u, us', rfl, h1, h2⟩ := h
    exact ⟨u, us', rfl, Le.rel y _ u h1, LeL.rel z K _ us' h2⟩
theorem LeL.row {w : World} {κ : Gh} {l m : List AV} (x : LeL l m) (K : Option Key) (r c : Nat) (C : Array Value) (o : Nat) (h : relRow w κ K r c l C o) : relRow w κ K r c m C o := by
  cases x with
  | refl v => exact h
  | cons y z =>
    obtain ⟨⟨u, hu, h1⟩, h2⟩ := h
    exact ⟨⟨u, hu, Le.rel y _ u h1⟩, LeL.row z K r _ C _ h2⟩
theorem LeR.rel {w : World} {κ : Gh} {l m : List (List AV)} (x : LeR l m) (K : Option Key) (k r : Nat) (C : Array Value) (o : Nat) (h : relRs w κ K k r l C o) : relRs w κ K k r m C o := by
  cases x with
  | refl v => exact h
  | cons y z =>
    obtain ⟨h0, h1, h2⟩ := h
    exact ⟨by rw [← LeL.len y]; exact h0, LeL.row y K r 0 C o h1, LeR.rel z K k _ C _ h2⟩
end
theorem LeL.relA {w : World} {κ : Gh} : ∀ {l m : List AV} (x : LeL l m) (j : Nat) (us : List Value), relA w κ j l us → relA w κ j m us
  | _, _, .refl l, j, us, h => h
  | _, _, .cons y z, j, us, h => by
    obtain ⟨u, us', rfl, h1, h2⟩ := h
    exact ⟨u, us', rfl, y.rel _ u h1, LeL.relA z (j + 1) us' h2⟩
theorem Contract.le {P : Program} {f : FuncId} {args args' : List AV} {res : AV} {outs : List (Option AV)} (x : LeL args args') (h : Contract P f args' res outs) : Contract P f args res outs := by
  intro κ w vals h1 h2 h3
  rw [x.len] at h2 ⊢
  exact h κ w vals h1 h2 (x.relA 0 vals h3)
/-- Truth values, told one way. -/
def nbC : AV → AV
  | .tt => .bool true
  | .ff => .bool false
  | v => v
def nbL : List AV → List AV
  | [] => []
  | v :: l => nbC v :: nbL l
def nbA : AV → AV
  | .agg l => .agg (nbL l)
  | .pb l => .pb (nbL l)
  | v => nbC v
def nbAs : List AV → List AV
  | [] => []
  | v :: l => nbA v :: nbAs l
def nb : AV → AV
  | .tup l => .tup (nbAs l)
  | v => nbA v
theorem nbC_sim (v : AV) : Sim v (nbC v) := by
  cases v <;> first | exact .tt | exact .ff | exact .refl _
theorem nbL_sim : ∀ l : List AV, SimL l (nbL l)
  | [] => .refl _
  | v :: l => .cons (nbC_sim v) (nbL_sim l)
theorem nbA_sim (v : AV) : Sim v (nbA v) := by
  cases v <;> first | exact .agg (nbL_sim _) | exact .pb (nbL_sim _) | exact nbC_sim _
theorem nbAs_sim : ∀ l : List AV, SimL l (nbAs l)
  | [] => .refl _
  | v :: l => .cons (nbA_sim v) (nbAs_sim l)
theorem nb_sim (v : AV) : Sim v (nb v) := by
  cases v <;> first | exact .tup (nbAs_sim _) | exact nbA_sim _
theorem Sim.nb {v r : AV} (h : nb v = r) : Sim v r := h ▸ nb_sim v
theorem nbC_rel {w : World} {κ : Gh} {L : AV → Value → Prop} {v : AV} {K : Option Key} {u : Value} : relV w κ L K (nbC v) u ↔ relV w κ L K v u := by
  cases v <;> exact Iff.rfl
theorem nbL_rel {w : World} {κ : Gh} {L : AV → Value → Prop} {K : Option Key} : ∀ {l : List AV} {c : Nat} {us : List Value}, relL w κ L K c (nbL l) us ↔ relL w κ L K c l us
  | [], c, us => Iff.rfl
  | v :: l, c, us => by
    constructor
    · rintro ⟨u, us', e, h1, h2⟩; exact ⟨u, us', e, nbC_rel.1 h1, nbL_rel.1 h2⟩
    · rintro ⟨u, us', e, h1, h2⟩; exact ⟨u, us', e, nbC_rel.2 h1, nbL_rel.2 h2⟩
theorem nbRow_rel {w : World} {κ : Gh} {K : Option Key} : ∀ {l : List AV} {r c : Nat} {C : Array Value} {o : Nat}, relRow w κ K r c (nbL l) C o ↔ relRow w κ K r c l C o
  | [], r, c, C, o => Iff.rfl
  | v :: l, r, c, C, o => by
    constructor
    · rintro ⟨⟨u, e, h1⟩, h2⟩; exact ⟨⟨u, e, nbC_rel.1 h1⟩, nbRow_rel.1 h2⟩
    · rintro ⟨⟨u, e, h1⟩, h2⟩; exact ⟨⟨u, e, nbC_rel.2 h1⟩, nbRow_rel.2 h2⟩
theorem nbA_rel {w : World} {κ : Gh} {L : AV → Value → Prop} {v : AV} {K : Option Key} {u : Value} : relV w κ L K (nbA v) u ↔ relV w κ L K v u := by
  cases v
  case agg l =>
    constructor
    · rintro ⟨vs, e, h⟩; exact ⟨vs, e, nbL_rel.1 h⟩
    · rintro ⟨vs, e, h⟩; exact ⟨vs, e, nbL_rel.2 h⟩
  case pb l =>
    constructor
    · rintro ⟨b, off, C, t, fr, h1, h2, h3, h4, h5⟩; exact ⟨b, off, C, t, fr, h1, h2, h3, h4, nbRow_rel.1 h5⟩
    · rintro ⟨b, off, C, t, fr, h1, h2, h3, h4, h5⟩; exact ⟨b, off, C, t, fr, h1, h2, h3, h4, nbRow_rel.2 h5⟩
  all_goals exact Iff.rfl
theorem nbAs_rel {w : World} {κ : Gh} {L : AV → Value → Prop} {K : Option Key} : ∀ {l : List AV} {c : Nat} {us : List Value}, relL w κ L K c (nbAs l) us ↔ relL w κ L K c l us
  | [], c, us => Iff.rfl
  | v :: l, c, us => by
    constructor
    · rintro ⟨u, us', e, h1, h2⟩; exact ⟨u, us', e, nbA_rel.1 h1, nbAs_rel.1 h2⟩
    · rintro ⟨u, us', e, h1, h2⟩; exact ⟨u, us', e, nbA_rel.2 h1, nbAs_rel.2 h2⟩
theorem nb_rel {w : World} {κ : Gh} {L : AV → Value → Prop} {v : AV} {K : Option Key} {u : Value} : relV w κ L K (nb v) u ↔ relV w κ L K v u := by
  cases v
  case tup l =>
    constructor
    · rintro ⟨vs, e, h⟩; exact ⟨vs, e, nbAs_rel.1 h⟩
    · rintro ⟨vs, e, h⟩; exact ⟨vs, e, nbAs_rel.2 h⟩
  all_goals first | exact Iff.rfl | exact nbA_rel (v := .agg _) | exact nbA_rel (v := .pb _)
/-- A contract's result, its truth values told in other ways. -/
theorem Contract.nbr {P : Program} {f : FuncId} {args : List AV} {res res' : AV} {outs : List (Option AV)} (e : nb res' = nb res) (h : Contract P f args res outs) : Contract P f args res' outs := by
  intro κ w vals h1 h2 h3
  refine callRun_mono (fun v w' hq => ?_) (h κ w vals h1 h2 h3)
  obtain ⟨κ', a, b⟩ := hq
  exact ⟨κ', nb_rel.1 (by rw [e]; exact nb_rel.2 a), b⟩
theorem nbAs_relA {w : World} {κ : Gh} : ∀ {l : List AV} {j : Nat} {us : List Value}, relA w κ j (nbAs l) us ↔ relA w κ j l us
  | [], j, us => Iff.rfl
  | v :: l, j, us => by
    constructor
    · rintro ⟨u, us', e, h1, h2⟩; exact ⟨u, us', e, nbA_rel.1 h1, nbAs_relA.1 h2⟩
    · rintro ⟨u, us', e, h1, h2⟩; exact ⟨u, us', e, nbA_rel.2 h1, nbAs_relA.2 h2⟩
theorem nbAs_len : ∀ l : List AV, (nbAs l).length = l.length
  | [] => rfl
  | v :: l => by simp [nbAs, nbAs_len l]
/-- A contract's arguments, their truth values told in other ways. -/
theorem Contract.nba {P : Program} {f : FuncId} {args args' : List AV} {res : AV} {outs : List (Option AV)} (e : nbAs args' = nbAs args) (h : Contract P f args res outs) : Contract P f args' res outs := by
  intro κ w vals h1 h2 h3
  have hl : args'.length = args.length := by rw [← nbAs_len args', e, nbAs_len]
  rw [hl] at h2 ⊢
  exact h κ w vals h1 h2 (nbAs_relA.1 (by rw [← e]; exact nbAs_relA.2 h3))
end Go.Proofs.VI
end
