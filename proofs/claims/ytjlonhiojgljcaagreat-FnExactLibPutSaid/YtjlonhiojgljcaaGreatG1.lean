/- Contracts of functions, and what they rest on: l17par. -/
import Derived.Test.YtjlonhiojgljcaaGreatA7
import Derived.Test.YtjlonhiojgljcaaGreatF6
set_option linter.unusedVariables false
set_option linter.unusedSimpArgs false
set_option maxRecDepth 10000
set_option maxHeartbeats 4000000
namespace Go.Proofs.VI
open Go
/-! What is read, as it should be: an answer, and the place behind; or none. -/
def bindO {α β : Type} (P : Int → Option (α × Int)) (Q : α → Int → Option (β × Int)) (p : Int) : Option (β × Int) := match P p with | some (x, q) => Q x q | none => none
def retO {α : Type} (x : α) (p : Int) : Option (α × Int) := some (x, p)
def noneO {α : Type} (_ : Int) : Option (α × Int) := none
def manyO {α : Type} (P : Int → Option (α × Int)) : Nat → Int → Option (List α × Int)
  | 0 => retO []
  | n + 1 => bindO P fun x => bindO (manyO P n) fun l => retO (x :: l)
def manyS {α : Type} (f : RS → α × RS) : Nat → RS → List α × RS
  | 0, s => ([], s)
  | n + 1, s => ((manyS f n s).1 ++ [(f (manyS f n s).2).1], (f (manyS f n s).2).2)
theorem partsS_many (f : RS → GExpr × RS) : ∀ n s, partsS f n s = manyS f n s
  | 0, s => rfl
  | n + 1, s => by rw [partsS, manyS, partsS_many f n s]
theorem manyS_len {α : Type} {f : RS → α × RS} : ∀ n s, (manyS f n s).1.length = n
  | 0, s => rfl
  | n + 1, s => by rw [manyS, List.length_append, manyS_len n s]; rfl
theorem manyS_ok {α : Type} {f : RS → α × RS} (hf : ∀ s, okS s → okS (f s).2) : ∀ n s, okS s → okS (manyS f n s).2
  | 0, s, h => h
  | n + 1, s, h => hf _ (manyS_ok hf n s h)
theorem manyS_all {α : Type} {f : RS → α × RS} {Q : α → Prop} (hf : ∀ s, Q (f s).1) : ∀ n s, ∀ x ∈ (manyS f n s).1, Q x
  | 0, s, x, hx => by simp [manyS] at hx
  | n + 1, s, x, hx => by
    simp only [manyS] at hx
    rcases List.mem_append.1 hx with h | h
    · exact manyS_all hf n s x h
    · rw [List.mem_singleton] at h; subst h; exact hf _
theorem manyS_cons {α : Type} (f : RS → α × RS) : ∀ n s, manyS f (n + 1) s = ((f s).1 :: (manyS f n (f s).2).1, (manyS f n (f s).2).2)
  | 0, s => rfl
  | n + 1, s => by rw [manyS, manyS_cons f n s]; rfl
/-- Till it is bad. -/
def untilS {α : Type} (f : RS → α × RS) : Nat → RS → List α × RS
  | 0, s => ([], s)
  | n + 1, s => if s.2 = true then ([], s) else ((f s).1 :: (untilS f n (f s).2).1, (untilS f n (f s).2).2)
theorem untilS_ok {α : Type} {f : RS → α × RS} (hf : ∀ s, okS s → okS (f s).2) : ∀ n s, okS s → okS (untilS f n s).2
  | 0, s, h => h
  | n + 1, s, h => by
    rw [untilS]; split
    · exact h
    · exact untilS_ok hf n _ (hf s h)
theorem untilS_all {α : Type} {f : RS → α × RS} {Q : α → Prop} (hf : ∀ s, Q (f s).1) : ∀ n s, ∀ x ∈ (untilS f n s).1, Q x
  | 0, s, x, hx => by simp [untilS] at hx
  | n + 1, s, x, hx => by
    rw [untilS] at hx; split at hx
    · simp at hx
    · rcases List.mem_cons.1 hx with h | h
      · subst h; exact hf s
      · exact untilS_all hf n _ x h
theorem untilS_len {α : Type} {f : RS → α × RS} : ∀ n s, (untilS f n s).1.length ≤ n
  | 0, s => Nat.le_refl _
  | n + 1, s => by
    rw [untilS]; split
    · simp
    · have := untilS_len (f := f) n (f s).2; simp only [List.length_cons]; omega
/-- A reader reads what it should. -/
def Rep {α : Type} (f : RS → α × RS) (P : Int → Option (α × Int)) : Prop :=
  ∀ p bad, ((bad = true ∨ P p = none) → (f (p, bad)).2.2 = true) ∧ ∀ x q, bad = false → P p = some (x, q) → f (p, bad) = (x, (q, false))
theorem Rep.bad {α : Type} {f : RS → α × RS} {P : Int → Option (α × Int)} (h : Rep f P) {s : RS} (hs : s.2 = true) : (f s).2.2 = true := (h s.1 s.2).1 (.inl hs)
theorem Rep.ret {α : Type} (x : α) : Rep (fun s => (x, s)) (retO x) := fun p bad => ⟨fun h => h.elim (fun h => h) (fun h => nomatch h), fun y q hb h => (by simp only [retO, Option.some.injEq, Prod.mk.injEq] at h; obtain ⟨rfl, rfl⟩ := h; subst hb; rfl)⟩
theorem Rep.bind {α β : Type} {f : RS → α × RS} {P : Int → Option (α × Int)} {g : α → RS → β × RS} {Q : α → Int → Option (β × Int)} (h1 : Rep f P) (h2 : ∀ x, Rep (g x) (Q x)) :
    Rep (fun s => g (f s).1 (f s).2) (bindO P Q) := fun p bad => by
  refine ⟨fun h => ?_, fun x q hb h => ?_⟩
  · rcases h with h | h
    · exact (h2 _).bad (h1.bad h)
    · cases hP : P p with
      | none => exact (h2 _).bad ((h1 p bad).1 (.inr hP))
      | some y =>
        obtain ⟨y, q⟩ := y
        cases bad with
        | true => exact (h2 _).bad (h1.bad rfl)
        | false =>
          have e := (h1 p false).2 y q rfl hP
          dsimp only
          rw [e]
          rw [bindO, hP] at h
          exact (h2 y q false).1 (.inr h)
  · subst hb
    rw [bindO] at h
    split at h
    · rename_i y r hP
      have e := (h1 p false).2 y r rfl hP
      dsimp only
      rw [e]
      exact (h2 y r false).2 x q rfl h
    · cases h
theorem Rep.many {α : Type} {f : RS → α × RS} {P : Int → Option (α × Int)} (h : Rep f P) : ∀ n, Rep (manyS f n) (manyO P n)
  | 0 => Rep.ret []
  | n + 1 => by
    have := Rep.bind h fun x => Rep.bind (Rep.many h n) fun l => Rep.ret (x :: l)
    intro p bad
    have := this p bad
    rw [manyS_cons]
    exact this
theorem Rep.until {α : Type} {f : RS → α × RS} {P : Int → Option (α × Int)} (h : Rep f P) : ∀ n, Rep (untilS f n) (manyO P n)
  | 0 => Rep.ret []
  | n + 1 => by
    have := Rep.bind h fun x => Rep.bind (Rep.until h n) fun l => Rep.ret (x :: l)
    intro p bad
    have := this p bad
    rw [untilS]
    cases bad with
    | true => exact ⟨fun _ => rfl, fun x q hb => by cases hb⟩
    | false => exact this
theorem Rep.congr {α : Type} {f g : RS → α × RS} {P : Int → Option (α × Int)} (h : Rep f P) (e : ∀ s, g s = f s) : Rep g P := (funext e : g = f) ▸ h
/-- A test. -/
def failS {α : Type} (c : Bool) (x : α) (s : RS) : α × RS := (x, s.1, s.2 || c)
theorem Rep.fail {α : Type} (c : Bool) (x : α) : Rep (failS c x) (if c = true then noneO else retO x) := fun p bad => by
  cases c
  · refine ⟨fun h => ?_, fun y q hb h => ?_⟩
    · rcases h with h | h
      · simp [failS, h]
      · cases h
    · simp only [Bool.false_eq_true, if_false, retO, Option.some.injEq, Prod.mk.injEq] at h
      obtain ⟨rfl, rfl⟩ := h
      subst hb; rfl
  · exact ⟨fun _ => by simp [failS], fun y q hb h => by simp [noneO] at h⟩
theorem Rep.no {α : Type} {f : RS → α × RS} (h : ∀ s, (f s).2.2 = true) : Rep f noneO := fun p bad => ⟨fun _ => h _, fun x q _ h => by cases h⟩
theorem rep_word (b : List UInt8) : Rep (wordS b) (getW b) := fun p bad => by
  refine ⟨fun h => ?_, fun x q hb h => ?_⟩
  · rw [wordS]
    cases bad with
    | true => rfl
    | false =>
      rcases h with h | h
      · cases h
      · simp [h]
  · subst hb; rw [wordS]; simp [h]
theorem rep_text (b : List UInt8) : Rep (textS b) (getT b) := fun p bad => by
  refine ⟨fun h => ?_, fun x q hb h => ?_⟩
  · rw [textS]
    cases bad with
    | true => rfl
    | false =>
      rcases h with h | h
      · cases h
      · simp [h]
  · subst hb; rw [textS]; simp [h]
def argsK (k : Int) : Nat := if k = 4 then 1 else if inI k 5 10 = true then 2 else 0
def headO (b : List UInt8) (P : Int → Option (GExpr × Int)) (k : Int) : Int → Option (GExpr × Int) :=
  if k = 1 ∨ k = 11 then bindO (getW b) fun n => retO (.mk k n ⟨#[]⟩ []) else if k = 2 ∨ k = 12 then bindO (getT b) fun s => retO (.mk k 0 s [])
  else bindO (manyO P (argsK k)) fun l => retO (.mk k 0 ⟨#[]⟩ l)
def exprO (b : List UInt8) : Nat → Int → Option (GExpr × Int)
  | 0 => noneO
  | d + 1 => bindO (getW b) (headO b (exprO b d))
def bodyS (v : Bool) (b : List UInt8) (d : Nat) (k : Int) (s : RS) : GExpr × RS :=
  if s.2 = true then (if v = true then .mk k 0 ⟨#[]⟩ [] else .mk 0 0 ⟨#[]⟩ [], s.1, true)
  else (.mk k (headS b k s).1 (headS b k s).2.1 (partsS (exprS v b d) (headS b k s).2.2.1 (headS b k s).2.2.2).1, (partsS (exprS v b d) (headS b k s).2.2.1 (headS b k s).2.2.2).2)
theorem rep_expr (v : Bool) (b : List UInt8) : ∀ d, Rep (exprS v b d) (exprO b d)
  | 0 => Rep.no fun s => by rw [exprS]
  | d + 1 => by
    have ih := rep_expr v b d
    have hb : ∀ k, Rep (bodyS v b d k) (headO b (exprO b d) k) := fun k => by
      intro p bad
      cases bad with
      | true => exact ⟨fun _ => by simp [bodyS], fun x q hb => by cases hb⟩
      | false =>
        have e : bodyS v b d k (p, false) = (.mk k (headS b k (p, false)).1 (headS b k (p, false)).2.1 (partsS (exprS v b d) (headS b k (p, false)).2.2.1 (headS b k (p, false)).2.2.2).1, (partsS (exprS v b d) (headS b k (p, false)).2.2.1 (headS b k (p, false)).2.2.2).2) := by
          rw [bodyS, if_neg (by simp)]
        rw [e]
        by_cases h1 : k = 1 ∨ k = 11
        · have := (Rep.bind (rep_word b) fun n => Rep.ret (GExpr.mk k n ⟨#[]⟩ [])) p false
          rw [headO, if_pos h1]
          have e2 : headS b k (p, false) = ((wordS b (p, false)).1, ⟨#[]⟩, 0, (wordS b (p, false)).2) := by rw [headS, if_pos h1]
          rw [e2]; exact this
        · by_cases h2 : k = 2 ∨ k = 12
          · have := (Rep.bind (rep_text b) fun n => Rep.ret (GExpr.mk k 0 n [])) p false
            rw [headO, if_neg h1, if_pos h2]
            have e2 : headS b k (p, false) = (0, (textS b (p, false)).1, 0, (textS b (p, false)).2) := by rw [headS, if_neg h1, if_pos h2]
            rw [e2]; exact this
          · have := (Rep.bind (Rep.many ih (argsK k)) fun l => Rep.ret (GExpr.mk k 0 ⟨#[]⟩ l)) p false
            rw [headO, if_neg h1, if_neg h2]
            have e2 : headS b k (p, false) = (0, ⟨#[]⟩, argsK k, (p, false)) := by rw [headS, if_neg h1, if_neg h2]; rfl
            rw [e2]
            dsimp only
            rw [partsS_many]; exact this
    refine (Rep.bind (rep_word b) hb).congr fun s => ?_
    rw [exprS, bodyS]
/-- The same, where one starts inside. -/
def PreI {α : Type} (n : Nat) (P P' : Int → Option (α × Int)) : Prop := (∀ (p : Int) (x : α) (q : Int), p ≤ n → (P' p = some (x, q) ↔ (P p = some (x, q) ∧ q ≤ n))) ∧ ∀ p x q, P p = some (x, q) → p ≤ q
theorem PreI.ret {α : Type} {n : Nat} (x : α) : PreI n (retO x) (retO x) := by
  refine ⟨fun p y q hp => ?_, fun p y q h => ?_⟩
  · simp only [retO, Option.some.injEq, Prod.mk.injEq]
    constructor
    · rintro ⟨h1, h2⟩; exact ⟨⟨h1, h2⟩, by omega⟩
    · exact fun h => h.1
  · simp only [retO, Option.some.injEq, Prod.mk.injEq] at h; omega
theorem PreI.no {α : Type} {n : Nat} : PreI n (noneO (α := α)) noneO := ⟨fun p x q _ => by simp [noneO], fun p x q h => by simp [noneO] at h⟩
theorem PreI.bind {α β : Type} {n : Nat} {P P' : Int → Option (α × Int)} {Q Q' : α → Int → Option (β × Int)} (h1 : PreI n P P') (h2 : ∀ x, PreI n (Q x) (Q' x)) : PreI n (bindO P Q) (bindO P' Q') := by
  refine ⟨fun p y r hp => ?_, fun p y r h => ?_⟩
  · constructor
    · intro h
      rw [bindO] at h
      split at h
      · rename_i x q hP
        obtain ⟨h3, h4⟩ := (h1.1 p x q hp).1 hP
        obtain ⟨h5, h6⟩ := ((h2 x).1 q y r h4).1 h
        exact ⟨by rw [bindO, h3]; exact h5, h6⟩
      · cases h
    · rintro ⟨h, hr⟩
      rw [bindO] at h
      split at h
      · rename_i x q hP
        have hq := (h2 x).2 q y r h
        have h3 := (h1.1 p x q hp).2 ⟨hP, by omega⟩
        rw [bindO, h3]
        exact ((h2 x).1 q y r (by omega)).2 ⟨h, hr⟩
      · cases h
  · rw [bindO] at h
    split at h
    · rename_i x q hP
      have := h1.2 p x q hP
      have := (h2 x).2 q y r h
      omega
    · cases h
theorem PreI.many {α : Type} {n : Nat} {P P' : Int → Option (α × Int)} (h : PreI n P P') : ∀ k, PreI n (manyO P k) (manyO P' k)
  | 0 => PreI.ret []
  | k + 1 => PreI.bind h fun x => PreI.bind (PreI.many h k) fun l => PreI.ret (x :: l)
theorem take_getD {b : List UInt8} {n i : Nat} (h : i < n) : (b.take n).getD i 0 = b.getD i 0 := by
  rw [List.getD_eq_getElem?_getD, List.getD_eq_getElem?_getD, List.getElem?_take, if_pos h]
theorem pre_word (b : List UInt8) (n : Nat) (hn : n ≤ b.length) : PreI n (getW b) (getW (b.take n)) := by
  have hl : (b.take n).length = n := by simp [hn]
  refine ⟨fun p x q hp => ?_, fun p x q h => by have := getW_in h; omega⟩
  constructor
  · intro h
    have hi := getW_in h
    rw [hl] at hi
    rw [getW, if_pos (by rw [hl]; omega), take_getD (by omega), take_getD (by omega)] at h
    exact ⟨by rw [getW, if_pos (by omega)]; exact h, by omega⟩
  · rintro ⟨h, hq⟩
    have hi := getW_in h
    rw [getW, if_pos (by omega)] at h
    rw [getW, if_pos (by rw [hl]; omega), take_getD (by omega), take_getD (by omega)]; exact h
theorem pre_text (b : List UInt8) (n : Nat) (hn : n ≤ b.length) : PreI n (getT b) (getT (b.take n)) := by
  have hl : (b.take n).length = n := by simp [hn]
  refine ⟨fun p x q hp => ?_, fun p x q h => by have := getT_in h; omega⟩
  constructor
  · intro h
    have hi := getT_in h
    rw [hl] at hi
    rw [getT] at h
    split at h
    · rename_i m r hw
      have hw2 := ((pre_word b n hn).1 p m r hp).1 hw
      have hw3 := getW_in hw
      split at h
      · rename_i hc
        rw [hl] at hc
        injection h with h; injection h with h1 h2
        refine ⟨?_, by omega⟩
        rw [getT, hw2.1]
        dsimp only
        rw [if_pos (by omega), ← h1, ← h2]
        congr 3
        rw [List.drop_take, List.take_take, Nat.min_eq_left (by omega)]
      · cases h
    · cases h
  · rintro ⟨h, hq⟩
    rw [getT] at h
    split at h
    · rename_i m r hw
      have hw3 := getW_in hw
      split at h
      · rename_i hc
        injection h with h; injection h with h1 h2
        have hw2 := ((pre_word b n hn).1 p m r hp).2 ⟨hw, by omega⟩
        rw [getT, hw2]
        dsimp only
        rw [if_pos (by omega), ← h1, ← h2]
        congr 3
        rw [List.drop_take, List.take_take, Nat.min_eq_left (by omega)]
      · cases h
    · cases h
theorem pre_expr (b : List UInt8) (n : Nat) (hn : n ≤ b.length) : ∀ d, PreI n (exprO b d) (exprO (b.take n) d)
  | 0 => PreI.no
  | d + 1 => by
    refine PreI.bind (pre_word b n hn) fun k => ?_
    rw [headO, headO]
    split
    · exact PreI.bind (pre_word b n hn) fun _ => PreI.ret _
    · split
      · exact PreI.bind (pre_text b n hn) fun _ => PreI.ret _
      · exact PreI.bind (PreI.many (pre_expr b n hn d) _) fun _ => PreI.ret _
def atMost {α : Type} (k m : Int) (P : Int → Option (α × Int)) : Int → Option (α × Int) := if k > m then noneO else P
theorem PreI.most {α : Type} {n : Nat} {P P' : Int → Option (α × Int)} (k m : Int) (h : PreI n P P') : PreI n (atMost k m P) (atMost k m P') := by
  rw [atMost, atMost]; split
  · exact PreI.no
  · exact h
def sectO (b : List UInt8) : Int → Option (GSect × Int) := bindO (getT b) fun nm => bindO (getW b) fun ov => atMost ov 1 <| bindO (getW b) fun k => atMost k 256 <| bindO (manyO (exprO b 6) k.toNat) fun ws => retO ⟨nm, decide (ov = 1), ws⟩
def globO (b : List UInt8) : Int → Option (GGlob × Int) := bindO (getT b) fun nm => bindO (exprO b 6) fun e => retO ⟨nm, e⟩
def objO (b : List UInt8) : Int → Option (GObj × Int) := bindO (getW b) fun k => atMost k 8 <| bindO (manyO (sectO b) k.toNat) fun ss => bindO (getW b) fun m => atMost m 20 <| bindO (manyO (globO b) m.toNat) fun gs => retO ⟨ss, gs⟩
theorem pre_sect (b : List UInt8) (n : Nat) (hn : n ≤ b.length) : PreI n (sectO b) (sectO (b.take n)) :=
  PreI.bind (pre_text b n hn) fun _ => PreI.bind (pre_word b n hn) fun _ => PreI.most _ _ <| PreI.bind (pre_word b n hn) fun _ => PreI.most _ _ <| PreI.bind (PreI.many (pre_expr b n hn 6) _) fun _ => PreI.ret _
theorem pre_glob (b : List UInt8) (n : Nat) (hn : n ≤ b.length) : PreI n (globO b) (globO (b.take n)) :=
  PreI.bind (pre_text b n hn) fun _ => PreI.bind (pre_expr b n hn 6) fun _ => PreI.ret _
theorem pre_obj (b : List UInt8) (n : Nat) (hn : n ≤ b.length) : PreI n (objO b) (objO (b.take n)) :=
  PreI.bind (pre_word b n hn) fun _ => PreI.most _ _ <| PreI.bind (PreI.many (pre_sect b n hn) _) fun _ => PreI.bind (pre_word b n hn) fun _ => PreI.most _ _ <| PreI.bind (PreI.many (pre_glob b n hn) _) fun _ => PreI.ret _
/-! The program's readers. -/
def countS (b : List UInt8) (m : Int) (s : RS) : Int × RS := if (wordS b s).1 > m then (0, (wordS b s).2.1, true) else wordS b s
def sectI (b : List UInt8) (s : RS) : GSect × RS :=
  (⟨(textS b s).1, decide ((countS b 1 (textS b s).2).1 = 1), (manyS (exprS false b 6) (countS b 256 (countS b 1 (textS b s).2).2).1.toNat (countS b 256 (countS b 1 (textS b s).2).2).2).1⟩,
   (manyS (exprS false b 6) (countS b 256 (countS b 1 (textS b s).2).2).1.toNat (countS b 256 (countS b 1 (textS b s).2).2).2).2)
def globI (v : Bool) (b : List UInt8) (s : RS) : GGlob × RS := (⟨(textS b s).1, (exprS v b 6 (textS b s).2).1⟩, (exprS v b 6 (textS b s).2).2)
def objI (b : List UInt8) (s : RS) : GObj × RS :=
  (⟨(manyS (sectI b) (countS b 8 s).1.toNat (countS b 8 s).2).1, (manyS (globI false b) (countS b 20 (manyS (sectI b) (countS b 8 s).1.toNat (countS b 8 s).2).2).1.toNat (countS b 20 (manyS (sectI b) (countS b 8 s).1.toNat (countS b 8 s).2).2).2).1⟩,
   (manyS (globI false b) (countS b 20 (manyS (sectI b) (countS b 8 s).1.toNat (countS b 8 s).2).2).1.toNat (countS b 20 (manyS (sectI b) (countS b 8 s).1.toNat (countS b 8 s).2).2).2).2)
theorem rep_count {α : Type} (b : List UInt8) (m : Int) (g : Int → RS → α × RS) (Q : Int → Int → Option (α × Int)) (h : ∀ x, Rep (g x) (Q x)) : Rep (fun s => g (countS b m s).1 (countS b m s).2) (bindO (getW b) fun k => atMost k m (Q k)) := by
  have h1 : ∀ k, Rep (fun s => if k > m then g 0 (s.1, true) else g k s) (atMost k m (Q k)) := fun k => by
    rw [atMost]
    split
    · exact Rep.no fun s => (h 0).bad rfl
    · exact h k
  refine (Rep.bind (rep_word b) h1).congr fun s => ?_
  rw [countS]
  split <;> rfl
theorem rep_sectI (b : List UInt8) : Rep (sectI b) (sectO b) :=
  Rep.bind (rep_text b) fun nm => rep_count b 1 (fun ov s => (GSect.mk nm (decide (ov = 1)) (manyS (exprS false b 6) (countS b 256 s).1.toNat (countS b 256 s).2).1, (manyS (exprS false b 6) (countS b 256 s).1.toNat (countS b 256 s).2).2)) _ fun ov =>
    rep_count b 256 (fun k s => (GSect.mk nm (decide (ov = 1)) (manyS (exprS false b 6) k.toNat s).1, (manyS (exprS false b 6) k.toNat s).2)) _ fun k => Rep.bind (Rep.many (rep_expr false b 6) _) fun ws => Rep.ret _
theorem rep_globI (v : Bool) (b : List UInt8) : Rep (globI v b) (globO b) := Rep.bind (rep_text b) fun nm => Rep.bind (rep_expr v b 6) fun e => Rep.ret _
theorem rep_objI (b : List UInt8) : Rep (objI b) (objO b) :=
  rep_count b 8 (fun k s => (GObj.mk (manyS (sectI b) k.toNat s).1 (manyS (globI false b) (countS b 20 (manyS (sectI b) k.toNat s).2).1.toNat (countS b 20 (manyS (sectI b) k.toNat s).2).2).1, (manyS (globI false b) (countS b 20 (manyS (sectI b) k.toNat s).2).1.toNat (countS b 20 (manyS (sectI b) k.toNat s).2).2).2)) _ fun k =>
    Rep.bind (Rep.many (rep_sectI b) _) fun ss => rep_count b 20 (fun m s => (GObj.mk ss (manyS (globI false b) m.toNat s).1, (manyS (globI false b) m.toNat s).2)) _ fun m => Rep.bind (Rep.many (rep_globI false b) _) fun gs => Rep.ret _
/-! The reference's. -/
def sectS (b : List UInt8) (s : RS) : GSect × RS :=
  let t := textS b s; let o := wordS b t.2; let k := wordS b o.2
  let w := untilS (exprS true b 6) k.1.toNat (k.2.1, k.2.2 || (decide (o.1 > 1) || decide (k.1 > 256)))
  (⟨t.1, decide (o.1 = 1), w.1⟩, w.2)
theorem rep_sectS (b : List UInt8) : Rep (sectS b) (sectO b) := by
  have h := Rep.bind (rep_text b) fun nm => Rep.bind (rep_word b) fun ov => Rep.bind (rep_word b) fun k => Rep.bind (Rep.fail (decide (ov > 1) || decide (k > 256)) ()) fun _ => Rep.bind (Rep.until (rep_expr true b 6) k.toNat) fun ws => Rep.ret (GSect.mk nm (decide (ov = 1)) ws)
  intro p bad
  have h := h p bad
  have e : sectO b p = bindO (getT b) (fun nm => bindO (getW b) fun ov => bindO (getW b) fun k => bindO (if (decide (ov > 1) || decide (k > 256)) = true then noneO else retO ()) fun _ => bindO (manyO (exprO b 6) k.toNat) fun ws => retO (GSect.mk nm (decide (ov = 1)) ws)) p := by
    rw [sectO, bindO, bindO]
    cases getT b p with
    | none => rfl
    | some y =>
      obtain ⟨nm, q⟩ := y
      dsimp only
      rw [bindO, bindO]
      cases getW b q with
      | none => rfl
      | some y =>
        obtain ⟨ov, q⟩ := y
        dsimp only
        rw [atMost]
        by_cases h1 : ov > 1
        · rw [if_pos h1, bindO]
          cases getW b q with
          | none => rfl
          | some y => dsimp only; rw [if_pos (by simp [h1])]; rfl
        · rw [if_neg h1, bindO, bindO]
          cases getW b q with
          | none => rfl
          | some y =>
            obtain ⟨k, q⟩ := y
            dsimp only
            rw [atMost]
            by_cases h2 : k > 256
            · rw [if_pos h2, if_pos (by simp [h2])]; rfl
            · rw [if_neg h2, if_neg (by simp [h1, h2])]; rfl
  rw [e]
  exact h
/-! A module, whole. -/
def bsum : List UInt8 → Int
  | [] => 0
  | x :: l => x.toNat + bsum l
def sumB (b : List UInt8) : Int := wr16 (-(bsum b))
noncomputable def modO (b : List UInt8) : Option GObj := match getW b 0 with
  | none => none
  | some (f, p) => match objO b p with
    | none => none
    | some (o, q) => match getW b q with
      | none => none
      | some (sm, r) => if f = 2935 ∧ r = b.length ∧ sm = sumB (b.take q.toNat) ∧ b.length ≤ 3000 ∧ objE o = true then some o else none
def rdF (b : List UInt8) : Int × RS := wordS b (0, false)
def rdO (b : List UInt8) : GObj × RS := objI b (rdF b).2
def rdS (b : List UInt8) : Int × RS := wordS b (rdO b).2
def goodI (b : List UInt8) : Prop := (rdS b).2.2 = false ∧ (rdS b).2.1 = b.length ∧ (rdF b).1 = 2935 ∧ (rdS b).1 = sumB (b.take (rdO b).2.1.toNat) ∧ b.length ≤ 3000 ∧ objE (rdO b).1 = true
theorem modO_impl (b : List UInt8) : (goodI b → modO b = some (rdO b).1) ∧ (¬ goodI b → modO b = none) := by
  rw [goodI, modO]
  cases h1 : getW b 0 with
  | none =>
    have e1 : (rdF b).2.2 = true := (rep_word b 0 false).1 (.inr h1)
    have e2 : (rdO b).2.2 = true := (rep_objI b).bad e1
    have e3 : (rdS b).2.2 = true := (rep_word b).bad e2
    exact ⟨fun h => (by rw [e3] at h; cases h.1), fun _ => rfl⟩
  | some y =>
    obtain ⟨f, p⟩ := y
    have e1 : rdF b = (f, p, false) := (rep_word b 0 false).2 f p rfl h1
    dsimp only
    cases h2 : objO b p with
    | none =>
      have e2 : (rdO b).2.2 = true := by rw [rdO, e1]; exact (rep_objI b p false).1 (.inr h2)
      have e3 : (rdS b).2.2 = true := (rep_word b).bad e2
      exact ⟨fun h => (by rw [e3] at h; cases h.1), fun _ => rfl⟩
    | some y =>
      obtain ⟨o, q⟩ := y
      have e2 : rdO b = (o, q, false) := by rw [rdO, e1]; exact (rep_objI b p false).2 o q rfl h2
      dsimp only
      cases h3 : getW b q with
      | none =>
        have e3 : (rdS b).2.2 = true := by rw [rdS, e2]; exact (rep_word b q false).1 (.inr h3)
        exact ⟨fun h => (by rw [e3] at h; cases h.1), fun _ => rfl⟩
      | some y =>
        obtain ⟨sm, r⟩ := y
        have e3 : rdS b = (sm, r, false) := by rw [rdS, e2]; exact (rep_word b q false).2 sm r rfl h3
        dsimp only
        rw [e1, e2, e3]
        dsimp only
        constructor
        · rintro ⟨_, g1, g2, g3⟩
          rw [if_pos ⟨g2, g1, g3⟩]
        · intro g
          rw [if_neg]
          rintro ⟨g2, g1, g3⟩
          exact g ⟨rfl, g1, g2, g3⟩
/-- The reference's. -/
def sdF (b : List UInt8) : Int × RS := wordS (b.take (b.length - 2)) (0, false)
def sumAt (b : List UInt8) : Int := match getW b ((b.length : Int) - 2) with | some (n, _) => n | none => 0
def sdB (b : List UInt8) : Bool := decide ((sdF b).1 ≠ 2935) || decide (sumAt b ≠ sumB (b.take (b.length - 2)))
def sdK (b : List UInt8) : Int × RS := wordS (b.take (b.length - 2)) ((sdF b).2.1, sdB b)
def sdSs (b : List UInt8) : List GSect × RS := untilS (sectS (b.take (b.length - 2))) (min (sdK b).1.toNat 9) (sdK b).2
def sdM (b : List UInt8) : Int × RS := wordS (b.take (b.length - 2)) (sdSs b).2
def sdGs (b : List UInt8) : List GGlob × RS := untilS (globI true (b.take (b.length - 2))) (min (sdM b).1.toNat 21) (sdM b).2
def goodS (b : List UInt8) : Prop := (sdGs b).2.2 = false ∧ (sdGs b).2.1 = (b.length : Int) - 2 ∧ ((sdSs b).1.length : Int) = (sdK b).1 ∧ ((sdGs b).1.length : Int) = (sdM b).1 ∧ objE ⟨(sdSs b).1, (sdGs b).1⟩ = true
def specO (b : List UInt8) : Int → Option ((List GSect × List GGlob × Int × Int) × Int) := bindO (getW b) fun k => bindO (manyO (sectO b) (min k.toNat 9)) fun ss => bindO (getW b) fun m => bindO (manyO (globO b) (min m.toNat 21)) fun gs => retO (ss, gs, k, m)
theorem rep_specO (b : List UInt8) : Rep (fun s => (((untilS (sectS b) (min (wordS b s).1.toNat 9) (wordS b s).2).1,
    (untilS (globI true b) (min (wordS b (untilS (sectS b) (min (wordS b s).1.toNat 9) (wordS b s).2).2).1.toNat 21) (wordS b (untilS (sectS b) (min (wordS b s).1.toNat 9) (wordS b s).2).2).2).1, (wordS b s).1, (wordS b (untilS (sectS b) (min (wordS b s).1.toNat 9) (wordS b s).2).2).1),
    (untilS (globI true b) (min (wordS b (untilS (sectS b) (min (wordS b s).1.toNat 9) (wordS b s).2).2).1.toNat 21) (wordS b (untilS (sectS b) (min (wordS b s).1.toNat 9) (wordS b s).2).2).2).2)) (specO b) :=
  Rep.bind (rep_word b) fun k => Rep.bind (Rep.until (rep_sectS b) _) fun ss => Rep.bind (rep_word b) fun m => Rep.bind (Rep.until (rep_globI true b) _) fun gs => Rep.ret (ss, gs, k, m)
theorem manyO_len {α : Type} {P : Int → Option (α × Int)} : ∀ {n : Nat} {p q : Int} {l : List α}, manyO P n p = some (l, q) → l.length = n
  | 0, p, q, l, h => by simp only [manyO, retO, Option.some.injEq, Prod.mk.injEq] at h; rw [← h.1]; rfl
  | n + 1, p, q, l, h => by
    rw [manyO, bindO] at h
    split at h
    · rename_i x r hx
      rw [bindO] at h
      split at h
      · rename_i l2 r2 h2
        simp only [retO, Option.some.injEq, Prod.mk.injEq] at h
        rw [← h.1, List.length_cons, manyO_len h2]
      · cases h
    · cases h
theorem bindO_some {α β : Type} {P : Int → Option (α × Int)} {Q : α → Int → Option (β × Int)} {p r : Int} {y : β} (h : bindO P Q p = some (y, r)) : ∃ x q, P p = some (x, q) ∧ Q x q = some (y, r) := by
  rw [bindO] at h
  split at h
  · rename_i x q hP; exact ⟨x, q, hP, h⟩
  · cases h
theorem atMost_some {α : Type} {k m : Int} {P : Int → Option (α × Int)} {p r : Int} {y : α} (h : atMost k m P p = some (y, r)) : k ≤ m ∧ P p = some (y, r) := by
  rw [atMost] at h
  split at h
  · cases h
  · exact ⟨by omega, h⟩
theorem retO_some {α : Type} {x y : α} {p q : Int} (h : retO x p = some (y, q)) : x = y ∧ p = q := by
  simpa only [retO, Option.some.injEq, Prod.mk.injEq] using h
theorem spec_objO {b : List UInt8} {p q : Int} {o : GObj} : objO b p = some (o, q) ↔ ∃ k m, specO b p = some ((o.sects, o.globs, k, m), q) ∧ (o.sects.length : Int) = k ∧ (o.globs.length : Int) = m ∧ k ≤ 8 ∧ m ≤ 20 := by
  constructor
  · intro h
    rw [objO] at h
    obtain ⟨k, q1, h1, h⟩ := bindO_some h
    obtain ⟨hk, h⟩ := atMost_some h
    obtain ⟨ss, q2, h2, h⟩ := bindO_some h
    obtain ⟨m, q3, h3, h⟩ := bindO_some h
    obtain ⟨hm, h⟩ := atMost_some h
    obtain ⟨gs, q4, h4, h⟩ := bindO_some h
    obtain ⟨e1, e2⟩ := retO_some h
    subst e1 e2
    have := getW_in h1
    have := getW_in h3
    have l1 := manyO_len h2
    have l2 := manyO_len h4
    refine ⟨k, m, ?_, by dsimp only; omega, by dsimp only; omega, hk, hm⟩
    rw [specO, bindO, h1]
    dsimp only
    rw [Nat.min_eq_left (by omega), bindO, h2]
    dsimp only
    rw [bindO, h3]
    dsimp only
    rw [Nat.min_eq_left (by omega), bindO, h4]
    rfl
  · rintro ⟨k, m, h, l1, l2, hk, hm⟩
    rw [specO] at h
    obtain ⟨k', q1, h1, h⟩ := bindO_some h
    obtain ⟨ss, q2, h2, h⟩ := bindO_some h
    obtain ⟨m', q3, h3, h⟩ := bindO_some h
    obtain ⟨gs, q4, h4, h⟩ := bindO_some h
    obtain ⟨e1, e2⟩ := retO_some h
    simp only [Prod.mk.injEq] at e1
    obtain ⟨rfl, rfl, rfl, rfl⟩ := e1
    subst e2
    rw [Nat.min_eq_left (by omega)] at h2 h4
    rw [objO, bindO, h1]
    dsimp only
    rw [atMost, if_neg (by omega), bindO, h2]
    dsimp only
    rw [bindO, h3]
    dsimp only
    rw [atMost, if_neg (by omega), bindO, h4]
    rfl
theorem objE_le {o : GObj} (h : objE o = true) : (o.sects.length : Int) ≤ 8 ∧ (o.globs.length : Int) ≤ 20 := by
  by_cases hp : objP o
  · exact hp.1
  · rw [objE, dec_false hp] at h; cases h
theorem modO_spec (b : List UInt8) (hn : 2 ≤ b.length) (hl : b.length ≤ 3000) : (goodS b → modO b = some ⟨(sdSs b).1, (sdGs b).1⟩) ∧ (¬ goodS b → modO b = none) := by
  have hle : b.length - 2 ≤ b.length := Nat.sub_le _ _
  obtain ⟨_, _, hsum⟩ := getW_some (b := b) (p := (b.length : Int) - 2) (by omega) (by omega)
  have rs := rep_specO (b.take (b.length - 2)) (sdF b).2.1 (sdB b)
  have rs : ((sdB b = true ∨ specO (b.take (b.length - 2)) (sdF b).2.1 = none) → (sdGs b).2.2 = true) ∧ ∀ x q, sdB b = false → specO (b.take (b.length - 2)) (sdF b).2.1 = some (x, q) → (((sdSs b).1, (sdGs b).1, (sdK b).1, (sdM b).1), (sdGs b).2) = (x, (q, false)) := rs
  -- what there is of the program's answer
  have key : ∀ o, modO b = some o ↔ (sdB b = false ∧ ∃ k m, specO (b.take (b.length - 2)) (sdF b).2.1 = some ((o.sects, o.globs, k, m), (b.length : Int) - 2) ∧ (o.sects.length : Int) = k ∧ (o.globs.length : Int) = m ∧ objE o = true) := by
    intro o
    constructor
    · intro h
      rw [modO] at h
      split at h
      · cases h
      · rename_i f p h1
        split at h
        · cases h
        · rename_i o' q h2
          split at h
          · cases h
          · rename_i sm r h3
            split at h
            · rename_i hc
              injection h with h; subst h
              obtain ⟨c1, c2, c3, c4, c5⟩ := hc
              have i1 := getW_in h1
              have i3 := getW_in h3
              have hq : q = (b.length : Int) - 2 := by omega
              subst hq
              have hpq := (pre_obj b (b.length - 2) hle).2 p o' _ h2
              have g1 := ((pre_word b (b.length - 2) hle).1 0 f p (by omega)).2 ⟨h1, by omega⟩
              have g2 := ((pre_obj b (b.length - 2) hle).1 p o' _ (by omega)).2 ⟨h2, by omega⟩
              have eF : sdF b = (f, p, false) := (rep_word _ 0 false).2 f p rfl g1
              obtain ⟨k, m, g3, l1, l2, _⟩ := spec_objO.1 g2
              refine ⟨?_, k, m, ?_, l1, l2, c5⟩
              · rw [sdB, eF, sumAt, h3]
                have : ((b.length : Int) - 2).toNat = b.length - 2 := by omega
                rw [this] at c3
                simp [c1, c3]
              · rw [eF]; exact g3
            · cases h
    · rintro ⟨hb, k, m, h, l1, l2, hE⟩
      have hb2 := hb
      simp only [sdB, Bool.or_eq_false_iff, decide_eq_false_iff_not, Decidable.not_not] at hb
      obtain ⟨b1, b2⟩ := hb
      cases hF : getW (b.take (b.length - 2)) 0 with
      | none =>
        have : (sdF b).1 = 0 := by rw [sdF, wordS, if_neg (by simp), hF]
        omega
      | some y =>
        obtain ⟨f, p⟩ := y
        have eF : sdF b = (f, p, false) := (rep_word _ 0 false).2 f p rfl hF
        rw [eF] at h b1
        have i1 := getW_in hF
        have e1 := ((pre_word b (b.length - 2) hle).1 0 f p (by omega)).1 hF
        have hEl := objE_le hE
        have g2 := spec_objO.2 ⟨k, m, h, l1, l2, by omega, by omega⟩
        have e2 := ((pre_obj b (b.length - 2) hle).1 p o _ (by omega)).1 g2
        rw [sumAt, hsum] at b2
        have : ((b.length : Int) - 2).toNat = b.length - 2 := by omega
        rw [modO, e1.1]
        dsimp only
        rw [e2.1]
        dsimp only
        rw [hsum]
        dsimp only
        rw [if_pos]
        refine ⟨b1, by omega, ?_, hl, hE⟩
        exact b2.trans (by rw [this])
  constructor
  · rintro ⟨g1, g2, g3, g4, g5⟩
    rw [key]
    have hb : sdB b = false := by
      cases hb : sdB b with
      | false => rfl
      | true => rw [rs.1 (.inl hb)] at g1; cases g1
    refine ⟨hb, ?_⟩
    cases hs : specO (b.take (b.length - 2)) (sdF b).2.1 with
    | none => rw [rs.1 (.inr hs)] at g1; cases g1
    | some y =>
      obtain ⟨x, q⟩ := y
      have e := rs.2 x q hb hs
      injection e with e1 e2
      refine ⟨(sdK b).1, (sdM b).1, ?_, g3, g4, g5⟩
      rw [← e1]
      rw [e2] at g2
      rw [← g2]
  · intro hg
    cases hm : modO b with
    | none => rfl
    | some o =>
      obtain ⟨hb, k, m, h, l1, l2, hE⟩ := (key o).1 hm
      have e := rs.2 _ _ hb h
      simp only [Prod.mk.injEq] at e
      obtain ⟨⟨e1, e2, e3, e4⟩, e5⟩ := e
      exact (hg ⟨by rw [e5], by rw [e5], by rw [e1, e3]; exact l1, by rw [e2, e4]; exact l2, by rw [e1, e2]; exact hE⟩).elim
end Go.Proofs.VI
