/- VI: values, a private heap for each call, and what code comes to; part 5. -/
import Derived.Test.YtjlonhiojgljcaaGreatL4
section
/- What is read, taken apart. -/
namespace Go.Proofs.VI
open Go
variable {tt : TypeId → Option TI} {t : TypeId} {i : TI} {l : List AV}
theorem hty_int {k : IntKind} (ht : tt t = some i) (hk : i.kind = .int k) (h : HasTy tt t l) : ∃ n, l = [.int k n] ∧ (Lit.int k n).wf = true := by
  cases h with
  | int h1 h2 h3 => rw [ht] at h1; injection h1 with h1; subst h1; rw [hk] at h2; injection h2 with h2; subst h2; exact ⟨_, rfl, h3⟩
  | bool h1 h2 => rw [ht] at h1; injection h1 with h1; subst h1; rw [hk] at h2; cases h2
  | str h1 h2 => rw [ht] at h1; injection h1 with h1; subst h1; rw [hk] at h2; cases h2
  | slice h1 h2 => rw [ht] at h1; injection h1 with h1; subst h1; rw [hk] at h2; cases h2
  | struct h1 h2 => rw [ht] at h1; injection h1 with h1; subst h1; rw [hk] at h2; cases h2
theorem hty_bool (ht : tt t = some i) (hk : i.kind = .bool) (h : HasTy tt t l) : ∃ b, l = [.bool b] := by
  cases h with
  | int h1 h2 h3 => rw [ht] at h1; injection h1 with h1; subst h1; rw [hk] at h2; cases h2
  | bool h1 h2 => exact ⟨_, rfl⟩
  | str h1 h2 => rw [ht] at h1; injection h1 with h1; subst h1; rw [hk] at h2; cases h2
  | slice h1 h2 => rw [ht] at h1; injection h1 with h1; subst h1; rw [hk] at h2; cases h2
  | struct h1 h2 => rw [ht] at h1; injection h1 with h1; subst h1; rw [hk] at h2; cases h2
theorem hty_str (ht : tt t = some i) (hk : i.kind = .str) (h : HasTy tt t l) : ∃ s, l = [.str s] ∧ s.size ≤ maxLen := by
  cases h with
  | int h1 h2 h3 => rw [ht] at h1; injection h1 with h1; subst h1; rw [hk] at h2; cases h2
  | bool h1 h2 => rw [ht] at h1; injection h1 with h1; subst h1; rw [hk] at h2; cases h2
  | str h1 h2 h3 => exact ⟨_, rfl, h3⟩
  | slice h1 h2 => rw [ht] at h1; injection h1 with h1; subst h1; rw [hk] at h2; cases h2
  | struct h1 h2 => rw [ht] at h1; injection h1 with h1; subst h1; rw [hk] at h2; cases h2
theorem hty_slice {e : TypeId} {ie : TI} (ht : tt t = some i) (hk : i.kind = .slice e) (he : tt e = some ie) (h : HasTy tt t l) : ∃ rows, l = [.ro ie.size rows] ∧ rows.length ≤ maxLen ∧ ∀ row ∈ rows, HasTy tt e row := by
  cases h with
  | int h1 h2 h3 => rw [ht] at h1; injection h1 with h1; subst h1; rw [hk] at h2; cases h2
  | bool h1 h2 => rw [ht] at h1; injection h1 with h1; subst h1; rw [hk] at h2; cases h2
  | str h1 h2 h3 => rw [ht] at h1; injection h1 with h1; subst h1; rw [hk] at h2; cases h2
  | slice h1 h2 h3 h4 h5 =>
    rw [ht] at h1; injection h1 with h1; subst h1; rw [hk] at h2; injection h2 with h2; subst h2
    rw [he] at h3; injection h3 with h3; subst h3
    exact ⟨_, rfl, h4, h5⟩
  | struct h1 h2 => rw [ht] at h1; injection h1 with h1; subst h1; rw [hk] at h2; cases h2
theorem hty_struct {fs : List (Nat × TypeId)} (ht : tt t = some i) (hk : i.kind = .struct fs) (h : HasTy tt t l) : l.length = i.size ∧
    ∀ (j off : Nat) (ft : TypeId) (i' : TI), fs[j]? = some (off, ft) → tt ft = some i' → HasTy tt ft ((l.drop off).take i'.size) := by
  cases h with
  | int h1 h2 h3 => rw [ht] at h1; injection h1 with h1; subst h1; rw [hk] at h2; cases h2
  | bool h1 h2 => rw [ht] at h1; injection h1 with h1; subst h1; rw [hk] at h2; cases h2
  | str h1 h2 h3 => rw [ht] at h1; injection h1 with h1; subst h1; rw [hk] at h2; cases h2
  | slice h1 h2 => rw [ht] at h1; injection h1 with h1; subst h1; rw [hk] at h2; cases h2
  | struct h1 h2 h3 h4 h5 =>
    rw [ht] at h1; injection h1 with h1; subst h1; rw [hk] at h2; injection h2 with h2; subst h2
    exact ⟨h3, h5⟩
/-- Cells, cut where a field ends. -/
theorem cut_cells {l : List AV} (off n : Nat) {a : List AV} (h : (l.drop off).take n = a) (r : List AV) (hr : l.drop (off + n) = r) : l.drop off = a ++ r := by
  rw [← List.take_append_drop n (l.drop off), h, List.drop_drop, hr]
theorem rows_of {α : Type} {f : α → List AV} {q : α → Prop} : ∀ (rows : List (List AV)), (∀ row ∈ rows, ∃ x, row = f x ∧ q x) → ∃ l : List α, rows = l.map f ∧ ∀ x ∈ l, q x
  | [], _ => ⟨[], rfl, by simp⟩
  | r :: rows, h => by
    obtain ⟨x, hx, hq⟩ := h r (by simp)
    obtain ⟨l, hl, hql⟩ := rows_of rows fun row hr => h row (by simp [hr])
    exact ⟨x :: l, by rw [hx, hl]; rfl, by simpa using ⟨hq, hql⟩⟩
theorem wf64 {n : Int} (h : (Lit.int .i64 n).wf = true) : -9223372036854775808 ≤ n ∧ n ≤ 9223372036854775807 := by
  simpa [Lit.wf, IntKind.min, IntKind.max, IntKind.signed, IntKind.bits] using h
theorem wfu8 {n : Int} (h : (Lit.int .u8 n).wf = true) : 0 ≤ n ∧ n ≤ 255 := by
  simpa [Lit.wf, IntKind.min, IntKind.max, IntKind.signed, IntKind.bits] using h
end Go.Proofs.VI
end
section
/- VI: code is sound, by the second evaluator; a function's contract. -/
set_option linter.unusedVariables false
set_option linter.unusedSimpArgs false
namespace Go.Proofs.VI
open Go

section
variable {P : Program} {w w' w0 : World} {κ κ' κ0 κ3 κc : Gh} {m m' : Nat → Addr} {n n' N : Nat} {M : Fm} {s s' : Slots} {h h' : Heap} {a : Act} {L L' : AV → Value → Prop} {tt : TypeId → Option TI} {C : FuncId → List AV → AV → List (Option AV) → Prop} {cut : Nat → Bool}
theorem ewpR_sound (T : TOk P tt) (HC : ∀ f args res outs, C f args res outs → Contract P f args res outs) (hm : P.follows .mixedOrders = true) {Mn : Nat} {J : List Nat} (hM : Mn ≤ M.size) (hJ : ∀ j, M.J j → j ∈ J) : ∀ (c : Code) {n : Nat} {s : Slots} {h : Heap} {κ : Gh} {m : Nat → Addr} {a : Act} {w : World} {Q : Nat → Ex → Slots → Heap → Prop},
    codeOk Mn J c = true → ewpR C tt cut c n s h Q → St M w κ m n s h a → Stp κ0 w0 κ w → c.wp P (UpX Q M κ0 w0) a w
  | .skip, n, s, h, κ, m, a, w, Q, hc, hk, S, ST => wp_skip ⟨n, s, h, κ, m, hk, S, ST⟩
  | .region id ops draw, n, s, h, κ, m, a, w, Q, hc, hk, S, ST => by
    have base : ∀ {n : Nat} {s : Slots} {h : Heap} {κ : Gh} {m : Nat → Addr}, ewpReg0 C tt ops draw n s h Q → St M w κ m n s h a → Stp κ0 w0 κ w → (Code.region id ops draw).wp P (UpX Q M κ0 w0) a w := fun {n s h κ m} hk S ST => by
      cases draw with
      | false =>
        replace hk : aopsR C tt ops.toList ops.toList n s h (fun n s h => Q n .normal s h) := hk
        rw [aopsR_eq] at hk
        exact wp_region_list (aops_sound (K := fun n s h => Q n .normal s h) T HC (fun a w hu => hu) hk S ST (dstOk_at hM hJ hc))
      | true =>
        replace hk : aopsDR C tt ops.toList ops.toList n 0 s h [] (fun n s h log => regOk ops log = true ∧ Q n .normal s h) := hk
        rw [aopsDR_eq] at hk
        exact draw_region T HC hm (K := fun n s h log => regOk ops log = true ∧ Q n .normal s h) hk (fun _ _ _ _ hk => hk.1) S ST (dstOk_at hM hJ hc) (fun a w hu => by
          obtain ⟨n, s, h, κ, m, ⟨log, hk⟩, S, ST⟩ := hu
          exact ⟨n, s, h, κ, m, hk.2, S, ST⟩)
    replace hk : ewpReg C tt cut id ops draw n s h Q := hk
    unfold ewpReg at hk
    split at hk
    · exact base hk S ST
    · obtain ⟨α, F, x0, hw0, hall⟩ := hk
      obtain ⟨κ', m', R, ST'⟩ := Weak_sound S.rel hw0
      exact base (forceNat_eq (hall x0)) ⟨R, S.fr⟩ (ST.trans ST')
  | .seq x y, n, s, h, κ, m, a, w, Q, hc, hk, S, ST => by
    simp only [codeOk, Bool.and_eq_true] at hc
    replace hk : ewpR C tt cut x n s h (fun n e s h => match e with | .normal => ewpR C tt cut y n s h Q | .exit i => Q n (.exit i) s h | .ret => Q n .ret s h) := hk
    refine wp_seq (wp_mono (ewpR_sound T HC hm hM hJ x hc.1 hk S ST) fun e a w hq => ?_)
    cases e with
    | normal =>
      obtain ⟨n, s, h, κ, m, hk, S, ST⟩ := hq
      exact ewpR_sound T HC hm hM hJ y hc.2 hk S ST
    | exit i => exact hq
    | ret => exact hq
    | _ => exact (show False from hq).elim
  | .cond c x y, n, s, h, κ, m, a, w, Q, hc, hk, S, ST => by
    simp only [codeOk, Bool.and_eq_true] at hc
    replace hk : ewpCond c x y (ewpR C tt cut x) (ewpR C tt cut y) n s h Q := hk
    unfold ewpCond at hk
    split at hk
    · rename_i t
      split at hk
      · rename_i v hv
        obtain ⟨h1, h2⟩ := S.rel.slot t v hv
        have he : ∀ b, a.tmps.getD t undef = .bool b → a.eval (.tmp t) = .bool b := fun b hb => hb
        have St' : ∀ v', norm v' = norm v → St M w κ m n (put s (some t) v') h a := fun v' hv' => ⟨S.rel.retell (put_norm hv hv'), S.fr⟩
        split at hk
        · exact wp_cond (t := true) (he _ h2) (ewpR_sound T HC hm hM hJ x hc.1 hk S ST)
        · exact wp_cond (t := false) (he _ h2) (ewpR_sound T HC hm hM hJ y hc.2 hk S ST)
        · rename_i b
          cases b with
          | true => exact wp_cond (t := true) (he _ h2) (ewpR_sound T HC hm hM hJ x hc.1 (hk.1 rfl) (St' .tt rfl) ST)
          | false => exact wp_cond (t := false) (he _ h2) (ewpR_sound T HC hm hM hJ y hc.2 (hk.2 rfl) (St' .ff rfl) ST)
        · exact hk.elim
      · exact hk.elim
    · exact hk.elim
  | .block id c, n, s, h, κ, m, a, w, Q, hc, hk, S, ST => by
    replace hk : ewpR C tt cut c n s h (fun n e s h => match e with | .normal => Q n .normal s h | .exit j => bif Nat.beq j id then Q n .normal s h else Q n (.exit j) s h | .ret => Q n .ret s h) := hk
    refine wp_block (wp_mono (ewpR_sound T HC hm hM hJ c hc hk S ST) fun e a w hq => ?_)
    cases e with
    | normal => exact hq
    | exit i =>
      obtain ⟨n, s, h, κ, m, hk, S, ST⟩ := hq
      simp only [Exit.inBlock]
      cases hb : Nat.beq i id with
      | true =>
        simp only [hb, cond_true] at hk
        rw [if_pos (Nat.eq_of_beq_eq_true hb)]
        exact ⟨n, s, h, κ, m, hk, S, ST⟩
      | false =>
        simp only [hb, cond_false] at hk
        rw [if_neg (fun e => by rw [e, beqT] at hb; cases hb)]
        exact ⟨n, s, h, κ, m, hk, S, ST⟩
    | ret => exact hq
    | _ => exact (show False from hq).elim
  | .loop c, n, s, h, κ, m, a, w, Q, hc, hk, S, ST => by
    replace hk : ewpLoop c (ewpR C tt cut c) n s h Q := hk
    obtain ⟨α, F, μ, x0, hw0, hround⟩ := hk
    have key : ∀ (k : Nat) (x : α) (κ : Gh) (m : Nat → Addr) (a : Act) (w : World), μ x < k → St M w κ m (nextId (F x)) (slots (F x).s) (heap (F x).h) a → Stp κ0 w0 κ w → Code.rounds P c (UpX Q M κ0 w0) k a w := fun k => by
      induction k with
      | zero => intro x κ m a w hlt; omega
      | succ k ih =>
        intro x κ m a w hlt S ST
        rw [rounds_succ]
        refine wp_mono (ewpR_sound T HC hm hM hJ c hc (forceNat_eq (hround x)) S ST) fun e a w hq => ?_
        cases e with
        | normal =>
          obtain ⟨n, s, h, κ, m, ⟨x', hlt', hw⟩, S, ST⟩ := hq
          obtain ⟨κ', m', R, ST'⟩ := Weak_sound S.rel hw
          exact ih x' κ' m' a w (by omega) ⟨R, S.fr⟩ (ST.trans ST')
        | exit i => exact hq
        | ret => exact hq
        | _ => exact (show False from hq).elim
    obtain ⟨κ', m', R, ST'⟩ := Weak_sound S.rel hw0
    exact wp_loop_rounds (μ x0 + 1) (key _ x0 κ' m' a w (Nat.lt_succ_self _) ⟨R, S.fr⟩ (ST.trans ST'))
  | .exit id, n, s, h, κ, m, a, w, Q, hc, hk, S, ST => wp_exit ⟨n, s, h, κ, m, hk, S, ST⟩
  | .ret, n, s, h, κ, m, a, w, Q, hc, hk, S, ST => wp_ret ⟨n, s, h, κ, m, hk, S, ST⟩
  | .rangeFunc .., n, s, h, κ, m, a, w, Q, hc, hk, S, ST => (show False from hk).elim
  | .scope .., n, s, h, κ, m, a, w, Q, hc, hk, S, ST => (show False from hk).elim
  | .label .., n, s, h, κ, m, a, w, Q, hc, hk, S, ST => (show False from hk).elim
  | .goto .., n, s, h, κ, m, a, w, Q, hc, hk, S, ST => (show False from hk).elim
  | .refuse .., n, s, h, κ, m, a, w, Q, hc, hk, S, ST => (show False from hk).elim

theorem contract_of2 (T : TOk P tt) (HC : ∀ f args res outs, C f args res outs → Contract P f args res outs) (hm : P.follows .mixedOrders = true) {f : FuncId} {fn : Func} (hf : P.funcs[f]? = some fn) (hname : (fn.name == "runtime.NumGoroutine") = false) {args : List AV} {res : AV} {outs : List (Option AV)}
    (hc : (match fn.body with | some c => codeOk fn.ntmps (outsJ 0 outs) c | none => false) = true) (hk : ewpG C tt cut fn args res outs) : Contract P f args res outs := by
  intro κ w vals hlow hfr hrel
  unfold ewpG at hk
  split at hk
  · exact hk.elim
  · rename_i c hb
    rw [hb] at hc
    simp only at hc
    obtain ⟨n', vs, h', hk, _, g, hg, hopen⟩ := openAs_sound (c0 := 0) hk
    -- the arguments under one root
    let κ1 : Gh := fun b => match κ b with | some (.key K) => some (.key (0, (0, K.1) :: K.2)) | x => x
    let κ3 : Gh := fun b => match κ b with | some (.key K) => (match g ((0, K.1) :: K.2) with | some k => some (.key k) | none => none) | x => x
    have hrel1 : relL w κ1 noL (some (0, [])) 0 args vals := relA_L (fun b hb => ⟨by simp [κ1, hb], rfl⟩) (fun j p b hb => by simp [κ1, hb]) hrel
    obtain ⟨m', NW, hvs⟩ := hopen w w κ1 κ3 (fun _ => default) (0, []) vals hrel1 (.inl fun b hb => ⟨by
      cases e : κ b with
      | none => simp [κ1, e] at hb
      | some x => cases x with
        | imm => simp [κ3, e]
        | key K => simp [κ1, e] at hb, rfl⟩) (fun q b k hb hgq => ⟨by
      cases e : κ b with
      | none => simp [κ1, e] at hb
      | some x => cases x with
        | imm => simp [κ1, e] at hb
        | key K =>
          simp only [κ1, e, List.nil_append, Option.some.injEq, G.key.injEq, Prod.mk.injEq, true_and] at hb
          simp only [κ3, e]
          rw [hb, hgq], rfl⟩)
    have hI3 : ∀ b, κ b = some .imm → κ3 b = some .imm := fun b hb => by simp [κ3, hb]
    have hlen : vals.length = args.length := by
      obtain ⟨h1, _⟩ := relL_get hrel1
      exact h1
    have hlen2 : vs.length = vals.length := (relL_get hvs).1.symm
    let a0 : Act := { tmps := vals.toArray ++ Array.replicate (fn.ntmps - vals.toArray.size) undef, defers := [] }
    have R0 : Rel w κ3 m' n' (slots (number 0 vs)) h' a0 := by
      refine ⟨fun t v ht => ?_, fun id b hb => ?_, fun b x hb => ?_, fun b id p hb => ?_⟩
      · obtain ⟨_, ht⟩ := number_get ht
        have ht : vs[t]? = some v := by simpa using ht
        have hlt : t < vals.length := by have := (List.getElem?_eq_some_iff.1 ht).1; omega
        refine ⟨by simp [a0]; omega, ?_⟩
        have := (relL_get hvs).2 t v vals[t] ht (List.getElem?_eq_getElem hlt)
        have e : a0.tmps.getD t undef = vals[t] := by
          simp [a0, Array.getD_eq_getD_getElem?, Array.getElem?_append, hlt]
        rw [e]
        exact relV_move (fun b hb => ⟨hb, rfl⟩) (fun _ _ h => h) v _ _ _ (by simp [kid, KeyMap]) this
      · by_cases hlt : id < n'
        · obtain ⟨B, e1, e2⟩ := NW.blk id (Nat.zero_le _) hlt
          rw [hb] at e1
          injection e1 with e1
          subst e1
          exact ⟨hlt, e2 _⟩
        · have := NW.old id (by omega)
          rw [hb] at this
          simp [heap] at this
      · cases e : κ b with
        | none => simp [κ3, e] at hb
        | some x' => exact hlow b x' e
      · cases e : κ b with
        | none => simp [κ3, e] at hb
        | some x' => cases x' with
          | imm => simp [κ3, e] at hb
          | key K =>
            simp only [κ3, e] at hb
            split at hb
            · rename_i k hgk
              injection hb with hb
              injection hb with hb
              subst hb
              exact (hg _ _ hgk).1.2
            · cases hb
    have ST0 : Stp κ w κ3 w := ⟨rfl, rfl, rfl, Nat.le_refl _, fun _ _ _ => rfl, hI3, fun b _ hb => (by simp [κ3, hb]), fun _ C _ _ h => ⟨C, h, rfl⟩⟩
    have hrun : (callFunc f vals.toArray).run P w = .ok (.enter f vals.toArray) w := by
      have hname' : fn.name ≠ "runtime.NumGoroutine" := by simpa using hname
      simp [callFunc, hf, hname', hb, go_sem]
    unfold callRun
    rw [hrun]
    refine calls_of_wp hf hb ?_
    let FM : Fm := ⟨a0.tmps.size, (· ∈ outsJ 0 outs), fun j => a0.tmps.getD j undef⟩
    refine wp_mono (ewpR_sound (cut := cut) (M := FM) (κ0 := κ) (w0 := w) T HC hm (by simp [FM, a0]; omega) (fun j hj => hj) c hc hk ⟨R0, rfl, rfl, fun _ _ => rfl⟩ ST0) fun e a' w' hq => ?_
    have fin : ∀ {n : Nat} {s : Slots} {h : Heap} {κ' : Gh} {m : Nat → Addr}, St FM w' κ' m n s h a' → Stp κ w κ' w' → (resultsV tt fn.results.toList n s h fun rs h => closeV 40 .mv h [] (tuple rs) fun r h vis => (match vis with | [] => Sim r res ∧ outsK h s 0 outs | _ => False)) →
        a'.defers = [] ∧ ∃ v, (results fn a'.tmps).run P w' = .ok v w' ∧ ∃ v', Ending.returned v = .returned v' ∧ ∃ κf, relV w' κf noL (some (args.length, [])) res v' ∧ relOuts w' κf 0 outs vals ∧ Stp κ w κf w' ∧ (∀ b g, κf b = some g → b < w'.heap.size) ∧ (∀ b id p, κf b = some (.key (id, p)) → id ≤ args.length) := by
      intro n s h κ' m S ST hk
      obtain ⟨rs, us, n1, h1, κ1', m1, hk, R1, ST1, _, hr, hl, hrun⟩ := results_sound T S.rel hk
      have S : St FM w' κ1' m1 n1 s h1 a' := ⟨R1, S.fr⟩
      have ST := ST.trans ST1
      clear ST1 R1
      have hsz : us.toArray.size = rs.length := by
        have := (relL_get (hr 0)).1
        simpa using this
      obtain ⟨r, h2, vis, T1, F1, V1, hk, c1, r1, _⟩ := closeV_sound S.rel (rk := (args.length, [])) (N := args.length + 1) (Nat.lt_succ_self _) (Sub.refl h1) (resVal hr hsz) hk
      split at hk
      · obtain ⟨hsim, hk⟩ := hk
        have := noV c1
        subst this
        obtain ⟨T2, F2, h5, c2, ih⟩ := outsK_sound S.rel (N := args.length) (us := vals) (outs := outs) (j := 0) (by omega) c1.sub (fun i o u ho hu => by
          rw [S.fr.kept _ (outsJ_mem ho)]
          have hlt : i < vals.length := (List.getElem?_eq_some_iff.1 hu).1
          have e : vals[i] = u := by rw [List.getElem?_eq_getElem hlt] at hu; injection hu
          simp [FM, a0, Array.getD_eq_getD_getElem?, Array.getElem?_append, hlt, e]) hk
        have cc := c1.trans (c2.lift (Nat.le_succ _))
        have SP : Spec κ1' (callG κ1' (T1 ++ T2) ((F1 ++ F2) ++ ([] ++ []))) (T1 ++ T2) (F1 ++ F2) ([] ++ []) := spec_callG cc.nodup cc.apart (fun i hi => by simp at hi)
        have SL := Spec.left SP
        have SR := Spec.right SP
        obtain ⟨κ1, x1, hro⟩ := ih _ SR
        have hrv : relV w' κ1 noL (some (args.length, [])) r _ := relV_move (x1.imm w') (fun _ _ h => h) r _ _ _ (x1.keyMap w' fun q hS => Nat.lt_irrefl _ hS.2) (r1 _ SL)
        obtain ⟨κ2, x2, hrv2⟩ := Sim_sound w' hsim noL κ1 (args.length, []) _ hrv
        have hro2 : relOuts w' κ2 0 outs vals := relOuts_move (x2.imm w') (fun j' _ hj => x2.keyMap w' fun q hS => by
          obtain ⟨q', e⟩ := hS
          have e := congrArg Prod.fst e
          simp at e
          omega) hro
        have xx : Fz (callG κ1' (T1 ++ T2) ((F1 ++ F2) ++ ([] ++ []))) κ2 (fun _ => True) := (x1.mono fun _ _ => trivial).trans (x2.mono fun _ _ => trivial)
        have hcg : ∀ b, callG κ1' (T1 ++ T2) ((F1 ++ F2) ++ ([] ++ [])) b ≠ none → κ1' b ≠ none := fun b hb e => hb (by simp [callG, e])
        have hkey : ∀ b K, callG κ1' (T1 ++ T2) ((F1 ++ F2) ++ ([] ++ [])) b = some (.key K) → K.1 ≤ args.length := fun b K hb => by
          unfold callG at hb
          split at hb
          · rename_i K0 hK0
            split at hb
            · rename_i y hy
              injection hb with hb
              injection hb with hb
              have := (cc.tk y (List.mem_of_find?_eq_some hy)).2.2 K0.2
              rw [hb] at this
              omega
            · split at hb <;> cases hb
          · rename_i hne
            exact absurd hb (hne _)
        refine ⟨S.fr.defers, _, ?_, _, rfl, κ2, hrv2, hro2, ST.trans ⟨rfl, rfl, rfl, Nat.le_refl _, fun _ _ _ => rfl, fun b hb => (xx.imm w' b (SP.imm b hb)).1, fun b _ hb => ?_, fun _ C _ _ h => ⟨C, h, rfl⟩⟩, fun b x hb => ?_, fun b id p hb => ?_⟩
        · unfold results
          rw [Array.mapM_eq_mapM_toList]
          have e2 : ∀ X : Sem (List Value), (List.toArray <$> X).run P w' = (X.run P w').andThen fun l w => .ok l.toArray w := fun X => by
            show Sem.run P (X >>= fun l => pure l.toArray) w' = _
            simp only [Sem.run_bind, Sem.run_pure]
          rw [Sem.run_bind, e2]
          refine (congrArg (fun r => Result.andThen (Result.andThen r fun l w => .ok l.toArray w) _) hrun).trans ?_
          simp only [Result.andThen_ok, Sem.run_pure]
        · rcases xx b with e | ⟨_, K, _, e⟩
          · rw [e]; simp [callG, hb]
          · simp [callG, hb] at e
        · cases e : κ1' b with
          | some x' => exact S.rel.low b x' e
          | none =>
            rcases xx b with e2 | ⟨_, K, _, e2⟩
            · rw [e2] at hb; simp [callG, e] at hb
            · simp [callG, e] at e2
        · rcases xx b with e2 | ⟨e2, _⟩
          · rw [e2] at hb; exact hkey b _ hb
          · rw [e2] at hb; cases hb
      · exact hk.elim
    cases e with
    | normal =>
      obtain ⟨n, s, h, κ', m, hk, S, ST⟩ := hq
      exact fin S ST hk
    | ret =>
      obtain ⟨n, s, h, κ', m, hk, S, ST⟩ := hq
      exact fin S ST hk
    | exit i =>
      obtain ⟨n, s, h, κ', m, hk, S, ST⟩ := hq
      exact hk.elim
    | _ => exact (show False from hq).elim
end
end Go.Proofs.VI
end
section
/- VI: a contract's arguments may be told in other ways. -/
set_option linter.unusedVariables false
set_option linter.unusedSimpArgs false
namespace Go.Proofs.VI
open Go
mutual
/-- Nil slices are rows of nothing; truth values. -/
inductive Le : AV → AV → Prop
  | refl (v : AV) : Le v v
  | nilr (k : Nat) : Le .nils (.ro k [])
  | nilo (k : Nat) : Le .nils (.ow k [])
  | ron (k k' : Nat) : Le (.ro k []) (.ro k' [])
  | tt : Le .tt (.bool true)
  | ff : Le .ff (.bool false)
  | agg {l l' : List AV} : LeL l l' → Le (.agg l) (.agg l')
  | pb {l l' : List AV} : LeL l l' → Le (.pb l) (.pb l')
  | ro {k : Nat} {l l' : List (List AV)} : LeR l l' → Le (.ro k l) (.ro k l')
inductive LeL : List AV → List AV → Prop
  | refl (l : List AV) : LeL l l
  | cons {a b : AV} {l m : List AV} : Le a b → LeL l m → LeL (a :: l) (b :: m)
inductive LeR : List (List AV) → List (List AV) → Prop
  | refl (l : List (List AV)) : LeR l l
  | cons {a b : List AV} {l m : List (List AV)} : LeL a b → LeR l m → LeR (a :: l) (b :: m)
end
theorem LeL.len : ∀ {l m : List AV}, LeL l m → l.length = m.length
  | _, _, .refl l => rfl
  | _, _, .cons y z => by simp [LeL.len z]
theorem LeR.len : ∀ {l m : List (List AV)}, LeR l m → l.length = m.length
  | _, _, .refl l => rfl
  | _, _, .cons y z => by simp [LeR.len z]
mutual
theorem Le.rel {w : World} {κ : Gh} {L : AV → Value → Prop} {a b : AV} (x : Le a b) (K : Option Key) (u : Value) (h : relV w κ L K a u) : relV w κ L K b u := by
  cases x with
  | refl v => exact h
  | nilr k => obtain ⟨A, rfl⟩ := h; exact ⟨A, 0, rfl, Nat.le_refl _, .inl rfl⟩
  | nilo k => obtain ⟨A, rfl⟩ := h; exact ⟨A, 0, rfl, Nat.le_refl _, .inl rfl⟩
  | ron k k' => obtain ⟨A, cap, hu, hl, _⟩ := h; exact ⟨A, cap, hu, hl, .inl rfl⟩
  | tt => exact h
  | ff => exact h
  | agg y => obtain ⟨vs, hu, h⟩ := h; exact ⟨vs, hu, LeL.rel y K 0 vs h⟩
  | pb y =>
    obtain ⟨b, off, C, t, fr, hu, hb, hf, hk, hr⟩ := h
    exact ⟨b, off, C, t, fr, hu, hb, hf, hk, LeL.row y K 0 0 C off hr⟩
  | ro y =>
    obtain ⟨A, cap, hu, hl, hr⟩ := h
    refine ⟨A, cap, by rw [← LeR.len y]; exact hu, by rw [← LeR.len y]; exact hl, ?_⟩
    rcases hr with e | ⟨b, off, C, t, fr, h1, h2, h3, h4⟩
    · exact .inl (List.eq_nil_of_length_eq_zero (by rw [← LeR.len y, e]; rfl))
    · exact .inr ⟨b, off, C, t, fr, h1, h2, h3, LeR.rel y none _ 0 C off h4⟩
theorem LeL.rel {w : World} {κ : Gh} {L : AV → Value → Prop} {l m : List AV} (x : LeL l m) (K : Option Key) (c : Nat) (us : List Value) (h : relL w κ L K c l us) : relL w κ L K c m us := by
  cases x with
  | refl v => exact h
  | cons y z =>
    obtain ⟨u, us', rfl, h1, h2⟩ := h
    exact ⟨u, us', rfl, Le.rel y _ u h1, LeL.rel z K _ us' h2⟩
theorem LeL.row {w : World} {κ : Gh} {l m : List AV} (x : LeL l m) (K : Option Key) (r c : Nat) (C : Array Value) (o : Nat) (h : relRow w κ K r c l C o) : relRow w κ K r c m C o := by
  cases x with
  | refl v => exact h
  | cons y z =>
    obtain ⟨⟨u, hu, h1⟩, h2⟩ := h
    exact ⟨⟨u, hu, Le.rel y _ u h1⟩, LeL.row z K r _ C _ h2⟩
theorem LeR.rel {w : World} {κ : Gh} {l m : List (List AV)} (x : LeR l m) (K : Option Key) (k r : Nat) (C : Array Value) (o : Nat) (h : relRs w κ K k r l C o) : relRs w κ K k r m C o := by
  cases x with
  | refl v => exact h
  | cons y z =>
    obtain ⟨h0, h1, h2⟩ := h
    exact ⟨by rw [← LeL.len y]; exact h0, LeL.row y K r 0 C o h1, LeR.rel z K k _ C _ h2⟩
end
theorem LeL.relA {w : World} {κ : Gh} : ∀ {l m : List AV} (x : LeL l m) (j : Nat) (us : List Value), relA w κ j l us → relA w κ j m us
  | _, _, .refl l, j, us, h => h
  | _, _, .cons y z, j, us, h => by
    obtain ⟨u, us', rfl, h1, h2⟩ := h
    exact ⟨u, us', rfl, y.rel _ u h1, LeL.relA z (j + 1) us' h2⟩
theorem Contract.le {P : Program} {f : FuncId} {args args' : List AV} {res : AV} {outs : List (Option AV)} (x : LeL args args') (h : Contract P f args' res outs) : Contract P f args res outs := by
  intro κ w vals h1 h2 h3
  rw [x.len] at h2 ⊢
  exact h κ w vals h1 h2 (x.relA 0 vals h3)
/-- Truth values, told one way. -/
def nbC : AV → AV
  | .tt => .bool true
  | .ff => .bool false
  | v => v
def nbL : List AV → List AV
  | [] => []
  | v :: l => nbC v :: nbL l
def nbA : AV → AV
  | .agg l => .agg (nbL l)
  | .pb l => .pb (nbL l)
  | v => nbC v
def nbAs : List AV → List AV
  | [] => []
  | v :: l => nbA v :: nbAs l
def nb : AV → AV
  | .tup l => .tup (nbAs l)
  | v => nbA v
theorem nbC_sim (v : AV) : Sim v (nbC v) := by
  cases v <;> first | exact .tt | exact .ff | exact .refl _
theorem nbL_sim : ∀ l : List AV, SimL l (nbL l)
  | [] => .refl _
  | v :: l => .cons (nbC_sim v) (nbL_sim l)
theorem nbA_sim (v : AV) : Sim v (nbA v) := by
  cases v <;> first | exact .agg (nbL_sim _) | exact .pb (nbL_sim _) | exact nbC_sim _
theorem nbAs_sim : ∀ l : List AV, SimL l (nbAs l)
  | [] => .refl _
  | v :: l => .cons (nbA_sim v) (nbAs_sim l)
theorem nb_sim (v : AV) : Sim v (nb v) := by
  cases v <;> first | exact .tup (nbAs_sim _) | exact nbA_sim _
theorem Sim.nb {v r : AV} (h : nb v = r) : Sim v r := h ▸ nb_sim v
theorem nbC_rel {w : World} {κ : Gh} {L : AV → Value → Prop} {v : AV} {K : Option Key} {u : Value} : relV w κ L K (nbC v) u ↔ relV w κ L K v u := by
  cases v <;> exact Iff.rfl
theorem nbL_rel {w : World} {κ : Gh} {L : AV → Value → Prop} {K : Option Key} : ∀ {l : List AV} {c : Nat} {us : List Value}, relL w κ L K c (nbL l) us ↔ relL w κ L K c l us
  | [], c, us => Iff.rfl
  | v :: l, c, us => by
    constructor
    · rintro ⟨u, us', e, h1, h2⟩; exact ⟨u, us', e, nbC_rel.1 h1, nbL_rel.1 h2⟩
    · rintro ⟨u, us', e, h1, h2⟩; exact ⟨u, us', e, nbC_rel.2 h1, nbL_rel.2 h2⟩
theorem nbRow_rel {w : World} {κ : Gh} {K : Option Key} : ∀ {l : List AV} {r c : Nat} {C : Array Value} {o : Nat}, relRow w κ K r c (nbL l) C o ↔ relRow w κ K r c l C o
  | [], r, c, C, o => Iff.rfl
  | v :: l, r, c, C, o => by
    constructor
    · rintro ⟨⟨u, e, h1⟩, h2⟩; exact ⟨⟨u, e, nbC_rel.1 h1⟩, nbRow_rel.1 h2⟩
    · rintro ⟨⟨u, e, h1⟩, h2⟩; exact ⟨⟨u, e, nbC_rel.2 h1⟩, nbRow_rel.2 h2⟩
theorem nbA_rel {w : World} {κ : Gh} {L : AV → Value → Prop} {v : AV} {K : Option Key} {u : Value} : relV w κ L K (nbA v) u ↔ relV w κ L K v u := by
  cases v
  case agg l =>
    constructor
    · rintro ⟨vs, e, h⟩; exact ⟨vs, e, nbL_rel.1 h⟩
    · rintro ⟨vs, e, h⟩; exact ⟨vs, e, nbL_rel.2 h⟩
  case pb l =>
    constructor
    · rintro ⟨b, off, C, t, fr, h1, h2, h3, h4, h5⟩; exact ⟨b, off, C, t, fr, h1, h2, h3, h4, nbRow_rel.1 h5⟩
    · rintro ⟨b, off, C, t, fr, h1, h2, h3, h4, h5⟩; exact ⟨b, off, C, t, fr, h1, h2, h3, h4, nbRow_rel.2 h5⟩
  all_goals exact Iff.rfl
theorem nbAs_rel {w : World} {κ : Gh} {L : AV → Value → Prop} {K : Option Key} : ∀ {l : List AV} {c : Nat} {us : List Value}, relL w κ L K c (nbAs l) us ↔ relL w κ L K c l us
  | [], c, us => Iff.rfl
  | v :: l, c, us => by
    constructor
    · rintro ⟨u, us', e, h1, h2⟩; exact ⟨u, us', e, nbA_rel.1 h1, nbAs_rel.1 h2⟩
    · rintro ⟨u, us', e, h1, h2⟩; exact ⟨u, us', e, nbA_rel.2 h1, nbAs_rel.2 h2⟩
theorem nb_rel {w : World} {κ : Gh} {L : AV → Value → Prop} {v : AV} {K : Option Key} {u : Value} : relV w κ L K (nb v) u ↔ relV w κ L K v u := by
  cases v
  case tup l =>
    constructor
    · rintro ⟨vs, e, h⟩; exact ⟨vs, e, nbAs_rel.1 h⟩
    · rintro ⟨vs, e, h⟩; exact ⟨vs, e, nbAs_rel.2 h⟩
  all_goals first | exact Iff.rfl | exact nbA_rel (v := .agg _) | exact nbA_rel (v := .pb _)
/-- A contract's result, its truth values told in other ways. -/
theorem Contract.nbr {P : Program} {f : FuncId} {args : List AV} {res res' : AV} {outs : List (Option AV)} (e : nb res' = nb res) (h : Contract P f args res outs) : Contract P f args res' outs := by
  intro κ w vals h1 h2 h3
  refine callRun_mono (fun v w' hq => ?_) (h κ w vals h1 h2 h3)
  obtain ⟨κ', a, b⟩ := hq
  exact ⟨κ', nb_rel.1 (by rw [e]; exact nb_rel.2 a), b⟩
theorem nbAs_relA {w : World} {κ : Gh} : ∀ {l : List AV} {j : Nat} {us : List Value}, relA w κ j (nbAs l) us ↔ relA w κ j l us
  | [], j, us => Iff.rfl
  | v :: l, j, us => by
    constructor
    · rintro ⟨u, us', e, h1, h2⟩; exact ⟨u, us', e, nbA_rel.1 h1, nbAs_relA.1 h2⟩
    · rintro ⟨u, us', e, h1, h2⟩; exact ⟨u, us', e, nbA_rel.2 h1, nbAs_relA.2 h2⟩
theorem nbAs_len : ∀ l : List AV, (nbAs l).length = l.length
  | [] => rfl
  | v :: l => by simp [nbAs, nbAs_len l]
/-- A contract's arguments, their truth values told in other ways. -/
theorem Contract.nba {P : Program} {f : FuncId} {args args' : List AV} {res : AV} {outs : List (Option AV)} (e : nbAs args' = nbAs args) (h : Contract P f args res outs) : Contract P f args' res outs := by
  intro κ w vals h1 h2 h3
  have hl : args'.length = args.length := by rw [← nbAs_len args', e, nbAs_len]
  rw [hl] at h2 ⊢
  exact h κ w vals h1 h2 (nbAs_relA.1 (by rw [← e]; exact nbAs_relA.2 h3))
end Go.Proofs.VI
end
section
/- VI: a called function may be gone through in its place: the names that are told stay. -/
set_option linter.unusedVariables false
set_option linter.unusedSimpArgs false
namespace Go.Proofs.VI
open Go

section
variable {P : Program} {w w' w0 : World} {κ κ' κ0 κ3 κc : Gh} {m m' : Nat → Addr} {n n' N : Nat} {M : Fm} {s s' : Slots} {h h' : Heap} {a : Act} {L L' L0 : AV → Value → Prop} {tt : TypeId → Option TI} {C : FuncId → List AV → AV → List (Option AV) → Prop} {cut : Nat → Bool}
/-- As Up, and what was told stays told. -/
def UpK (K : Nat → Slots → Heap → Prop) (N : Fm) (κ0 : Gh) (w0 : World) (L0 : AV → Value → Prop) (a : Act) (w : World) : Prop := ∃ n s h κ m, K n s h ∧ St N w κ m n s h a ∧ Stp κ0 w0 κ w ∧ ∀ v u, L0 v u → liveV w κ m n h v u
def UpXK (Q : Nat → Ex → Slots → Heap → Prop) (M : Fm) (κ0 : Gh) (w0 : World) (L0 : AV → Value → Prop) (e : Exit) (a : Act) (w : World) : Prop := match e with
  | .normal => UpK (fun n s h => Q n .normal s h) M κ0 w0 L0 a w
  | .exit i => UpK (fun n s h => Q n (.exit i) s h) M κ0 w0 L0 a w
  | .ret => UpK (fun n s h => Q n .ret s h) M κ0 w0 L0 a w
  | _ => False
theorem aopsK_sound (T : TOk P tt) (HC : ∀ f args res outs, C f args res outs → Contract P f args res outs) {opsA : Array Oper} {Q : Exit → Act → World → Prop} {K : Nat → Slots → Heap → Prop} (hQ : ∀ a w, UpK K M κ0 w0 L0 a w → Q .normal a w) :
    ∀ {ops : List Oper} {n : Nat} {s : Slots} {h : Heap} {κ : Gh} {m : Nat → Addr} {a : Act} {w : World}, aops C tt opsA.toList n ops s h K → St M w κ m n s h a → Stp κ0 w0 κ w → (∀ v u, L0 v u → liveV w κ m n h v u) → (∀ o ∈ ops, ∀ d, o.dst = some d → M.ok d) → wpList P opsA Q ops a w
  | [], n, s, h, κ, m, a, w, hk, S, ST, hL, hb => hQ a w ⟨n, s, h, κ, m, hk, S, ST, hL⟩
  | o :: rest, n, s, h, κ, m, a, w, hk, S, ST, hL, hb => by
    have hb' : ∀ o ∈ rest, ∀ d, o.dst = some d → M.ok d := fun o ho => hb o (List.mem_cons_of_mem _ ho)
    have hd := hb o (List.mem_cons_self ..)
    have yes : ∀ {s : Slots}, St M w κ m n s h a → Region.wanted o (yielded opsA a.tmps) = true → aop C tt n o s h (fun _ n v h => aops C tt opsA.toList n rest (put s o.dst v) h K) → wpList P opsA Q (o :: rest) a w := fun {s} S hw hk => by
      unfold wpList
      rw [if_pos hw]
      refine .inl (Oper.wp_mono2 (fun a' w' hp => ?_) (fun _ _ _ h => h) (aop_sound T HC S.rel hk))
      obtain ⟨f, n', v, h', κ', m', u, hk, hn, rfl, hv, R, S', _, _, hL'⟩ := hp
      exact aopsK_sound T HC hQ hk (St.put ⟨R, S.fr⟩ hd hv) (ST.trans S') (fun v u hv => hL' v u (hL v u hv)) hb'
    have no : ∀ {s : Slots}, St M w κ m n s h a → Region.wanted o (yielded opsA a.tmps) = false → aops C tt opsA.toList n rest (put s o.dst (.tup [])) h K → wpList P opsA Q (o :: rest) a w := fun {s} S hw hk => by
      unfold wpList
      rw [if_neg (by rw [hw]; simp)]
      exact aopsK_sound T HC hQ hk (St.put S hd tup_rel) ST hL hb'
    simp only [aops] at hk
    split at hk
    · rename_i hg
      exact yes S (by simp [Region.wanted, hg]) hk
    · rename_i j want hg
      split at hk
      · rename_i oj hj
        split at hk
        · rename_i d hdj
          split at hk
          · rename_i b hsd
            obtain ⟨hlt, hrel⟩ := S.rel.slot d b hsd
            split at hk
            · have hrel : a.tmps.getD d undef = .bool true := hrel
              cases want with
              | true => exact yes S (wanted_yes hg hj hdj hlt hrel) hk
              | false => exact no S (wanted_no hg hj hdj hlt (by rw [hrel]; simp)) hk
            · have hrel : a.tmps.getD d undef = .bool false := hrel
              cases want with
              | false => exact yes S (wanted_yes hg hj hdj hlt hrel) hk
              | true => exact no S (wanted_no hg hj hdj hlt (by rw [hrel]; simp)) hk
            · rename_i b
              have hrel : a.tmps.getD d undef = .bool b := hrel
              have St' : ∀ v', norm v' = .bool b → St M w κ m n (put s (some d) v') h a := fun v' hv' => ⟨S.rel.retell (put_norm hsd hv'), S.fr⟩
              cases want with
              | true =>
                cases b with
                | true => exact yes (St' .tt rfl) (wanted_yes hg hj hdj hlt hrel) (hk.1 rfl)
                | false => exact no (St' .ff rfl) (wanted_no hg hj hdj hlt (by rw [hrel]; simp)) (hk.2 rfl)
              | false =>
                cases b with
                | false => exact yes (St' .ff rfl) (wanted_yes hg hj hdj hlt hrel) (hk.1 rfl)
                | true => exact no (St' .tt rfl) (wanted_no hg hj hdj hlt (by rw [hrel]; simp)) (hk.2 rfl)
            · obtain ⟨vs, hu, hvs⟩ := hrel
              exact no S (wanted_no hg hj hdj hlt (by rw [hu]; simp)) hk
            · exact hk.elim
          · exact hk.elim
        · exact hk.elim
      · exact hk.elim
theorem drawn_anyK (T : TOk P tt) (HC : ∀ f args res outs, C f args res outs → Contract P f args res outs) {opsA : Array Oper} {es : List Ent} {s0 : Slots} {h0 : Heap} {n0 n2 : Nat} {M : Fm} {log2 : List Log} (TR : Trace C tt opsA.toList 0 opsA.toList es s0 h0 n0 [] n2 log2) (hreg : regOk opsA log2 = true)
    (hdst : ∀ o ∈ opsA.toList, ∀ d, o.dst = some d → M.ok d) {Q : Exit → Act → World → Prop}
    (hQ : ∀ a w κ m, St M w κ m n2 (sAt (fun _ => true) 0 es s0) (hAt (fun _ => true) 0 es h0) a → Stp κ0 w0 κ w → (∀ v u, L0 v u → liveV w κ m n2 (hAt (fun _ => true) 0 es h0) v u) → Q .normal a w) :
    ∀ (fuel : Nat) (listed : Array Bool) (κ : Gh) (m : Nat → Addr) (a : Act) (w : World), listed.size = opsA.size → cnt listed.toList ≤ fuel →
      (∀ i, listD listed i = true → ∀ k, ((Region.before opsA).getD i 0).testBit k = true → listD listed k = true) →
      RelN (AD n0 es (listD listed)) w κ m n2 (sAt (listD listed) 0 es s0) (hAt (listD listed) 0 es h0) a → Fr M a → Stp κ0 w0 κ w → (∀ v u, L0 v u → liveV w κ m n2 (hAt (listD listed) 0 es h0) v u ∧ nameOk (AD n0 es (listD listed)) v) → wpAny P .any opsA Q fuel listed a w := by
  simp only [regOk, Bool.and_eq_true] at hreg
  obtain ⟨rg1, rg2, rg3⟩ := hreg
  obtain ⟨tl, tn, tat⟩ := Trace_at TR
  have eget : ∀ (i : Nat) (o : Oper), opsA[i]? = some o → ∃ e : Ent, es[i]? = some e ∧ e.o = o := fun i o hi => by
    have hi' : opsA.toList[i]? = some o := by simpa using hi
    have hlt : i < es.length := by rw [← tl]; exact (List.getElem?_eq_some_iff.1 hi').1
    refine ⟨es[i], List.getElem?_eq_getElem hlt, ?_⟩
    have := (tat i es[i] (List.getElem?_eq_getElem hlt)).1
    rw [hi'] at this
    injection this with this
    exact this.symm
  have oget : ∀ (i : Nat) (e : Ent), es[i]? = some e → opsA[i]? = some e.o := fun i e hi => by simpa using (tat i e hi).1
  -- writers of a slot
  have hslot : ∀ {i k : Nat} {e e' : Ent} {t : Nat}, es[i]? = some e → es[k]? = some e' → e'.o.dst = some t → t ∈ namesO opsA e.o → ordered (Region.before opsA) k i = true := fun {i k e e' t} hi hk hd ht => by
    have := slotsOk_at rg2 k e'.o t (by simpa using oget k e' hk) hd i (namesO opsA e.o) (by rw [List.getElem?_map]; have := oget i e hi; simp only [Array.getElem?_toList, this]; rfl) ht
    rwa [Nat.zero_add] at this
  have ord_lt : ∀ {k i : Nat}, ordered (Region.before opsA) k i = true → k < i → ((Region.before opsA).getD i 0).testBit k = true := fun {k i} ho hlt => by
    unfold ordered at ho
    rw [bltT.2 hlt] at ho
    exact ho
  have ord_gt : ∀ {k i : Nat}, ordered (Region.before opsA) k i = true → i < k → ((Region.before opsA).getD k 0).testBit i = true := fun {k i} ho hlt => by
    unfold ordered at ho
    have : Nat.blt k i = false := ltB_false (i := i) (x := k) (by omega)
    rw [this, bltT.2 hlt] at ho
    exact ho
  -- all is done
  have allD : ∀ (listed : Array Bool) (κ : Gh) (m : Nat → Addr) (a : Act) (w : World), (∀ k, k < opsA.size → listD listed k = true) → RelN (AD n0 es (listD listed)) w κ m n2 (sAt (listD listed) 0 es s0) (hAt (listD listed) 0 es h0) a → Fr M a → Stp κ0 w0 κ w → (∀ v u, L0 v u → liveV w κ m n2 (hAt (listD listed) 0 es h0) v u ∧ nameOk (AD n0 es (listD listed)) v) → Q .normal a w := fun listed κ m a w hall R hfr ST hG => by
    have hes : ∀ (k : Nat) (e : Ent), es[k]? = some e → k < opsA.size := fun k e he => by
      have := (List.getElem?_eq_some_iff.1 he).1
      rw [← tl] at this
      simpa using this
    have e1 : sAt (listD listed) 0 es s0 = sAt (fun _ => true) 0 es s0 := by
      funext t
      exact sAt_agree rfl fun k e he _ => by rw [Nat.zero_add]; exact hall k (hes k e he)
    have e2 : hAt (listD listed) 0 es h0 = hAt (fun _ => true) 0 es h0 := by
      funext t
      exact hAt_agree rfl fun k e he _ => by rw [Nat.zero_add]; exact hall k (hes k e he)
    rw [e1, e2] at R
    rw [e2] at hG
    exact hQ a w κ m ⟨R.rel, hfr⟩ ST fun v u h => (hG v u h).1
  have ready_nil : ∀ (listed : Array Bool), listed.size = opsA.size → Region.ready .any opsA listed = [] → ∀ k, k < opsA.size → listD listed k = true := fun listed hsz hr k => by
    induction k using Nat.strongRecOn with
    | _ k ih =>
      intro hk
      cases hd : listD listed k with
      | true => rfl
      | false =>
        exfalso
        have : k ∈ Region.ready .any opsA listed := mem_ready.2 ⟨by
          have hd : listed.getD k false = false := hd
          simp only [Array.getD, hsz, hk, dif_pos] at hd ⊢
          exact hd, opsA[k], Array.getElem?_eq_getElem hk, fun e he hb => by
            have := edgesOk_at rg1 k opsA[k] (by simp [hk]) e he hb
            exact ih e.on (by omega) (by omega)⟩
        rw [hr] at this
        simp at this
  intro fuel
  induction fuel with
  | zero =>
    intro listed κ m a w hsize hcnt hcl R hfr ST hG
    have hall : ∀ k, k < opsA.size → listD listed k = true := fun k hk => by
      have : listed.toList[k]? = some (listed[k]'(by omega)) := by simp [hsize, hk]
      have := cnt_zero (Nat.le_zero.1 hcnt) k _ this
      simp [listD, Array.getD, hsize, hk, this]
    refine ⟨?_, allD listed κ m a w hall R hfr ST hG⟩
    cases hr : Region.ready .any opsA listed with
    | nil => rfl
    | cons i r =>
      exfalso
      have hi : i ∈ Region.ready .any opsA listed := by rw [hr]; exact List.mem_cons_self ..
      obtain ⟨h1, o, h2, _⟩ := mem_ready.1 hi
      have hlt := (Array.getElem?_eq_some_iff.1 h2).1
      have := hall i hlt
      simp only [listD, Array.getD, hsize, hlt, dif_pos] at this h1
      rw [this] at h1; cases h1
  | succ fuel ihf =>
    intro listed κ m a w hsize hcnt hcl R hfr ST hG
    refine ⟨fun hr => allD listed κ m a w (ready_nil listed hsize hr) R hfr ST hG, fun i hi => ?_⟩
    obtain ⟨hi1, o, hio, hedge⟩ := mem_ready.1 hi
    have hlt := (Array.getElem?_eq_some_iff.1 hio).1
    obtain ⟨e, he, heo⟩ := eget i o hio
    subst heo
    obtain ⟨_, EO, en0, en2, eord, etile⟩ := tat i e he
    simp only [Nat.zero_add] at EO
    generalize hD : listD listed = D at R hcl hG
    have hDi : D i = false := by
      rw [← hD]
      simp only [listD, Array.getD, hsize, hlt, dif_pos] at hi1 ⊢
      exact hi1
    -- all that it waits for is done
    have hBD : ∀ k, ((Region.before opsA).getD i 0).testBit k = true → D k = true := fun k hk => by
      obtain ⟨o', h1, e', h2, h3, h4⟩ := before_bit opsA hk
      rw [hio] at h1
      injection h1 with h1
      subst h1
      have hon : D e'.on = true := by rw [← hD]; exact hedge e' h2 h3
      rcases h4 with h4 | h4
      · rw [h4]; exact hon
      · exact hcl _ hon _ h4
    have hlater : ∀ k, ((Region.before opsA).getD k 0).testBit i = true → D k = false := fun k hk => by
      cases hd : D k with
      | false => rfl
      | true => rw [hcl k hd i hk] at hDi; cases hDi
    let D' : Nat → Bool := listD (listed.setIfInBounds i true)
    have hD' : ∀ k, D' k = if k = i then true else D k := fun k => by rw [← hD]; exact listD_set (by omega) k
    have hcl' : ∀ i', D' i' = true → ∀ k, ((Region.before opsA).getD i' 0).testBit k = true → D' k = true := fun i' hi' k hk => by
      rw [hD'] at hi' ⊢
      by_cases ek : k = i
      · rw [if_pos ek]
      · rw [if_neg ek]
        by_cases ei : i' = i
        · rw [ei] at hk; exact hBD k hk
        · rw [if_neg ei] at hi'; exact hcl i' hi' k hk
    have hcnt' : cnt (listed.setIfInBounds i true).toList ≤ fuel := by
      have : listed.toList[i]? = some false := by
        have h1 : i < listed.size := by omega
        have := hi1
        rw [Array.getD_eq_getD_getElem?] at this
        simp only [Array.getElem?_toList]
        simp only [h1, Array.getElem?_eq_getElem, Option.getD_some] at this ⊢
        rw [this]
      have := cnt_set this
      rw [Array.toList_setIfInBounds]
      omega
    -- slots that it names are as they were in the text's order
    have hsl : ∀ t, t ∈ namesO opsA e.o → sAt D 0 es s0 t = sAt (ltB i) 0 es s0 t := fun t ht => sAt_agree rfl fun k e' hk hd => by
      rw [Nat.zero_add]
      have ho := hslot he hk hd ht
      by_cases h1 : k < i
      · rw [hBD k (ord_lt ho h1)]; exact (ltB_iff.2 h1).symm
      · rw [ltB_false h1]
        by_cases h2 : k = i
        · rw [h2]; exact hDi
        · exact hlater k (ord_gt ho (by omega))
    have hsl' : ∀ t, sAt D' 0 es s0 t = put (sAt D 0 es s0) e.o.dst e.v t := fun t => by
      rw [put_at]
      by_cases hd : e.o.dst = some t
      · rw [if_pos hd]
        have h1 : sAt D' 0 es s0 t = sAt (ltB (0 + i + 1)) 0 es s0 t := sAt_agree rfl fun k e' hk hdk => by
          rw [Nat.zero_add, hD']
          by_cases h2 : k = i
          · rw [if_pos h2, h2]; exact (ltB_iff.2 (by omega)).symm
          · rw [if_neg h2]
            have ho := hslot he hk hdk (names_dst hd)
            by_cases h1 : k < i
            · rw [hBD k (ord_lt ho h1)]; exact (ltB_iff.2 (by omega)).symm
            · rw [ltB_false (by omega)]; exact hlater k (ord_gt ho (by omega))
        rw [h1, sAt_succ he, put_at, if_pos hd]
      · rw [if_neg hd]
        exact sAt_agree rfl fun k e' hk hdk => by
          rw [Nat.zero_add, hD']
          by_cases h2 : k = i
          · subst h2; rw [he] at hk; injection hk with hk; subst hk; exact absurd hdk hd
          · rw [if_neg h2]
    have hd : ∀ t, e.o.dst = some t → M.ok t := hdst e.o (List.mem_of_getElem? (by simpa using hio))
    -- a machine's slot for a guard
    have guardU : ∀ {d : Nat} {want : Bool} {x : AV}, gSlot opsA.toList e.o d want → (sAt (ltB i) 0 es s0 d).map norm = some x → d < a.tmps.size ∧ relV w κ (fun v u => liveV w κ m n2 (hAt D 0 es h0) v u ∧ nameOk (AD n0 es D) v) none x (a.tmps.getD d undef) := fun {d want x} hg hx => by
      rw [← hsl d (names_guard hg)] at hx
      cases hs : sAt D 0 es s0 d with
      | none => rw [hs] at hx; cases hx
      | some y =>
        rw [hs] at hx
        simp only [Option.map_some, Option.some.injEq] at hx
        obtain ⟨r1, r2⟩ := R.slot d y hs
        refine ⟨r1, ?_⟩
        rw [← hx]
        cases y <;> exact r2
    unfold wpOp
    rw [hio]
    cases hex : e.ex with
    | false =>
      obtain ⟨⟨d, want, hg, hval⟩, hv, hn'⟩ := EO.no hex
      have hno : Region.wanted e.o (yielded opsA a.tmps) = false := by
        obtain ⟨j, oj, g1, g2, g3⟩ := hg
        rcases hval with hval | hval
        · obtain ⟨r1, r2⟩ := guardU ⟨j, oj, g1, g2, g3⟩ hval
          have r2 : a.tmps.getD d undef = .bool (!want) := r2
          exact wanted_no g1 g2 g3 r1 (by rw [r2]; cases want <;> simp)
        · obtain ⟨r1, r2⟩ := guardU ⟨j, oj, g1, g2, g3⟩ hval
          obtain ⟨vs, hu, _⟩ := r2
          exact wanted_no g1 g2 g3 r1 (by rw [hu]; simp)
      simp only [hno, Bool.false_eq_true, if_false]
      have hwr : ∀ j, wr e j = false := fun j => by simp [wr, hex]
      have hh : hAt D' 0 es h0 = hAt D 0 es h0 := by
        funext j
        exact hAt_agree rfl fun k e' hk hw => by
          rw [Nat.zero_add, hD']
          by_cases h2 : k = i
          · subst h2; rw [he] at hk; injection hk with hk; subst hk; rw [hwr] at hw; cases hw
          · rw [if_neg h2]
      refine ihf _ κ m _ w (by simp [hsize]) hcnt' hcl' ?_ (hfr.put hd) ST (fun v u hl => by
        have := hG v u hl
        show liveV w κ m n2 (hAt D' 0 es h0) v u ∧ nameOk (AD n0 es D') v
        rw [hh]
        refine ⟨this.1, nameOk_mono (fun id hid => ?_) this.2⟩
        rcases hid with hid | ⟨k, e', h1, h2, h3⟩
        · exact .inl hid
        · refine .inr ⟨k, e', h1, ?_, h3⟩
          rw [hD']
          split
          · rfl
          · exact h2)
      show RelN (AD n0 es D') w κ m n2 (sAt D' 0 es s0) (hAt D' 0 es h0) _
      rw [show sAt D' 0 es s0 = put (sAt D 0 es s0) e.o.dst e.v from funext hsl', hh]
      refine RelN.put (R.mono (fun id hid => ?_) (fun id hid => ?_)) (fun t ht => by rw [hfr.size]; exact (hd t ht).1) (by rw [hv]; exact tup_rel)
      · rcases hid with hid | ⟨k, e', h1, h2, h3⟩
        · exact .inl hid
        · refine .inr ⟨k, e', h1, ?_, h3⟩
          rw [hD']
          split
          · rfl
          · exact h2
      · rcases hid with hid | ⟨k, e', h1, h2, h3⟩
        · omega
        · have := (tat k e' h1).2.2.2.1
          omega
    | true =>
      obtain ⟨hg, y1, y⟩ := EO.yes hex
      have hyes : Region.wanted e.o (yielded opsA a.tmps) = true := by
        rcases hg with hg | ⟨d, want, hg, hval⟩
        · simp [Region.wanted, hg]
        · obtain ⟨j, oj, g1, g2, g3⟩ := hg
          obtain ⟨r1, r2⟩ := guardU ⟨j, oj, g1, g2, g3⟩ hval
          exact wanted_yes g1 g2 g3 r1 r2
      simp only [hyes, if_true]
      have hconf : ∀ {k : Nat} {e' : Ent} {j : Nat}, es[k]? = some e' → k ≠ i → wr e' j = true → (wr e j = true ∨ j ∈ e.F) → (if k < i then ((Region.before opsA).getD i 0).testBit k = true else ((Region.before opsA).getD k 0).testBit i = true) := fun {k e' j} hk hne hw hj => by
        by_cases h1 : k < i
        · rw [if_pos h1]
          exact Trace_conf TR rg3 h1 hk he (.inl ⟨hw, hj.imp id fun hj => ⟨hex, hj⟩⟩)
        · rw [if_neg h1]
          rcases hj with hj | hj
          · exact Trace_conf TR rg3 (show i < k by omega) he hk (.inl ⟨hj, .inl hw⟩)
          · exact Trace_conf TR rg3 (show i < k by omega) he hk (.inr ⟨hw, hex, hj⟩)
      have hDk : ∀ {k : Nat} {e' : Ent} {j : Nat}, es[k]? = some e' → k ≠ i → wr e' j = true → (wr e j = true ∨ j ∈ e.F) → D k = ltB i k := fun {k e' j} hk hne hw hj => by
        have := hconf hk hne hw hj
        by_cases h1 : k < i
        · rw [if_pos h1] at this
          rw [hBD k this]; exact (ltB_iff.2 h1).symm
        · rw [if_neg h1] at this
          rw [ltB_false h1]; exact hlater k this
      have hheap : ∀ j ∈ e.F, hAt D 0 es h0 j = hAt (ltB i) 0 es h0 j := fun j hj => hAt_agree rfl fun k e' hk hw => by
        rw [Nat.zero_add]
        by_cases h2 : k = i
        · rw [h2, hDi]; exact (ltB_false (by omega)).symm
        · exact hDk hk h2 hw (.inr hj)
      have hFA : ∀ j ∈ e.F, AD n0 es D j := fun j hj => by
        rcases etile j (y1 j hj) with c | ⟨k, e', h1, h2, h3, h4⟩
        · exact .inl c
        · refine .inr ⟨k, e', h1, ?_, h3, h4⟩
          have hw : wr e' j = true := by
            have hx : e'.ex = true := by
              cases hx : e'.ex with
              | true => rfl
              | false =>
                have := ((tat k e' h1).2.1.no hx).2.2
                omega
            simp [wr, hx, bleT.2 h3, bltT.2 h4]
          rw [hDk h1 (by omega) hw (.inr hj)]
          exact ltB_iff.2 h2
      have fr : e.o.wp P a w (fun a' w' => ∃ κ' m' u, a' = a.put e.o.dst u ∧
          relV w' κ' (fun v u => liveV w' κ' m' n2 (fun j => bif (e.w && mem j e.F) || (Nat.ble e.n j && Nat.blt j e.n') then e.h' j else hAt D 0 es h0 j) v u ∧ nameOk (fun i => AD n0 es D i ∨ (e.n ≤ i ∧ i < e.n')) v) none e.v u ∧
          RelN (fun i => AD n0 es D i ∨ (e.n ≤ i ∧ i < e.n')) w' κ' m' n2 (sAt D 0 es s0) (fun j => bif (e.w && mem j e.F) || (Nat.ble e.n j && Nat.blt j e.n') then e.h' j else hAt D 0 es h0 j) a ∧ Stp κ w κ' w' ∧
          ∀ v u, (liveV w κ m n2 (hAt D 0 es h0) v u ∧ nameOk (AD n0 es D) v) → liveV w' κ' m' n2 (fun j => bif (e.w && mem j e.F) || (Nat.ble e.n j && Nat.blt j e.n') then e.h' j else hAt D 0 es h0 j) v u ∧ nameOk (fun i => AD n0 es D i ∨ (e.n ≤ i ∧ i < e.n')) v) (fun _ _ _ => False) := by
        rcases y with ⟨y2, y3, y4, y5, y6⟩ | ⟨y2, y3, y4⟩
        · rw [← restr_eq hheap] at y2
          refine frame_op (N := n2) T HC R y2 (fun t ht => by rw [EO.s_ t, hsl t (names_use ht)]) y1 y3 (fun j hj b hb => by rw [hheap j hj] at hb; exact y4 j hj b hb) (fun id hid => ?_) hFA en2 y5 y6
          intro hnew
          rcases hid with hid | ⟨k, e', h1, h2, h3⟩
          · omega
          · have hki : k ≠ i := fun e2 => by rw [e2, hDi] at h2; cases h2
            by_cases h4 : k < i
            · have := (tat k e' h1).2.2.2.2.1 i e he h4; omega
            · have := eord k e' h1 (by omega); omega
        · exact frame_lite (N := n2) T R (lite_agree y2 hheap) y3 (y4.trans EO.n_.symm) (fun t ht => by rw [EO.s_ t, hsl t (names_use ht)])
      refine .inl (Oper.wp_mono2 (fun a' w' hp => ?_) (fun _ _ _ h => h) fr)
      · obtain ⟨κ', m', u, rfl, hv, R', ST', hM⟩ := hp
        have hh : hAt D' 0 es h0 = fun j => bif (e.w && mem j e.F) || (Nat.ble e.n j && Nat.blt j e.n') then e.h' j else hAt D 0 es h0 j := by
          funext j
          have hwr : wr e j = ((e.w && mem j e.F) || (Nat.ble e.n j && Nat.blt j e.n')) := by simp [wr, hex]
          rw [← hwr]
          cases hw : wr e j with
          | true =>
            rw [cond_true]
            have h1 : hAt D' 0 es h0 j = hAt (ltB (0 + i + 1)) 0 es h0 j := hAt_agree rfl fun k e' hk hwk => by
              rw [Nat.zero_add, hD']
              by_cases h2 : k = i
              · rw [if_pos h2, h2]; exact (ltB_iff.2 (by omega)).symm
              · rw [if_neg h2, hDk hk h2 hwk (.inl hw)]
                by_cases h1 : k < i
                · rw [ltB_iff.2 h1]; exact (ltB_iff.2 (by omega)).symm
                · rw [ltB_false h1]; exact (ltB_false (by omega)).symm
            rw [h1, hAt_succ he]
            simp [hStep, hw]
          | false =>
            rw [cond_false]
            exact hAt_agree rfl fun k e' hk hwk => by
              rw [Nat.zero_add, hD']
              by_cases h2 : k = i
              · subst h2; rw [he] at hk; injection hk with hk; subst hk; rw [hw] at hwk; cases hwk
              · rw [if_neg h2]
        refine ihf _ κ' m' _ w' (by simp [hsize]) hcnt' hcl' ?_ (hfr.put hd) (ST.trans ST') (fun v u hl => by
          have := hM v u (hG v u hl)
          show liveV w' κ' m' n2 (hAt D' 0 es h0) v u ∧ nameOk (AD n0 es D') v
          rw [hh]
          refine ⟨this.1, nameOk_mono (fun id hid => ?_) this.2⟩
          rcases hid with (hid | ⟨k, e', h1, h2, h3⟩) | hid
          · exact .inl hid
          · refine .inr ⟨k, e', h1, ?_, h3⟩
            rw [hD']
            split
            · rfl
            · exact h2
          · exact .inr ⟨i, e, he, by rw [hD', if_pos rfl], hid⟩)
        show RelN (AD n0 es D') w' κ' m' n2 (sAt D' 0 es s0) (hAt D' 0 es h0) _
        rw [show sAt D' 0 es s0 = put (sAt D 0 es s0) e.o.dst e.v from funext hsl', hh]
        refine (RelN.put R' (fun t ht => by rw [hfr.size]; exact (hd t ht).1) hv).mono (fun id hid => ?_) (fun id hid => ?_)
        · rcases hid with (hid | ⟨k, e', h1, h2, h3⟩) | hid
          · exact .inl hid
          · refine .inr ⟨k, e', h1, ?_, h3⟩
            rw [hD']
            split
            · rfl
            · exact h2
          · exact .inr ⟨i, e, he, by rw [hD', if_pos rfl], hid⟩
        · rcases hid with hid | ⟨k, e', h1, h2, h3⟩
          · omega
          · have := (tat k e' h1).2.2.2.1
            omega
theorem draw_regionK (T : TOk P tt) (HC : ∀ f args res outs, C f args res outs → Contract P f args res outs) (hm : P.follows .mixedOrders = true) {opsA : Array Oper} {id : Nat} {M : Fm} {K : Nat → Slots → Heap → List Log → Prop}
    (hk : aopsD C tt opsA.toList n 0 opsA.toList s h [] K) (hK : ∀ n s h log, K n s h log → regOk opsA log = true) (S : St M w κ m n s h a) (ST : Stp κ0 w0 κ w) (hdst : ∀ o ∈ opsA.toList, ∀ d, o.dst = some d → M.ok d) {Q : Exit → Act → World → Prop}
    (hL : ∀ v u, L0 v u → liveV w κ m n h v u) (hQ : ∀ a w, UpK (fun n s h => ∃ log, K n s h log) M κ0 w0 L0 a w → Q .normal a w) : (Code.region id opsA true).wp P Q a w := by
  obtain ⟨es, n2, s2, log2, a1, a2, a3⟩ := aopsD_trace (s := s) (fun _ => rfl) hk
  refine wp_region_any hm ?_
  have R0 : Rel { w with drawn := w.drawn + 1 } κ m n s h a := S.rel.drew rfl
  have hno : ∀ k, listD (Array.replicate opsA.size false) k = false := fun k => by
    unfold listD
    by_cases hk : k < opsA.size <;> simp [Array.getD, hk]
  have e1 : sAt (listD (Array.replicate opsA.size false)) 0 es s = s := sAt_none fun k _ => hno _
  have e2 : hAt (listD (Array.replicate opsA.size false)) 0 es h = h := hAt_none fun k _ => hno _
  have hcnt : ∀ k, cnt (List.replicate k false) = k := fun k => by
    induction k with
    | zero => rfl
    | succ k ih => simp [List.replicate_succ, cnt, ih]
  have hle := (Trace_at a3).2.1
  refine drawn_anyK (κ0 := κ0) (w0 := w0) (L0 := L0) T HC a3 (hK _ _ _ _ a1) hdst (fun a' w' κ' m' S' ST' hL' => hQ a' w' ⟨n2, s2, _, κ', m', ⟨log2, a1⟩, ⟨S'.rel.retell a2, S'.fr⟩, ST', hL'⟩) opsA.size _ κ m a _ (by simp) (by simp [hcnt]) (fun i hi => by rw [hno] at hi; cases hi) ?_ S.fr ?_ ?_
  · rw [e1, e2]
    exact (R0.names hle).mono (fun i hi => .inl hi) (fun i hi => by
      rcases hi with hi | ⟨k, e, _, hd, _⟩
      · omega
      · rw [hno] at hd; cases hd)
  · exact ST.trans ⟨rfl, rfl, rfl, Nat.le_refl _, fun _ _ _ => rfl, fun _ h => h, fun _ _ h => h, fun _ C _ _ h => ⟨C, h, rfl⟩⟩
  · intro v u hl
    rw [e2]
    have h1 := hL v u hl
    have h2 : liveV { w with drawn := w.drawn + 1 } κ m n h v u := by cases v <;> exact h1
    refine ⟨liveV_move hle (fun i hi => .inr ⟨rfl, rfl, fun x hx => ⟨hx, rfl⟩⟩) v u h2, nameOk_mono (fun i hi => .inl hi) (liveV_name h1)⟩
/-- Code without loops. -/
def flat : Code → Bool
  | .skip => true
  | .region _ _ _ => true
  | .seq a b => flat a && flat b
  | .cond _ a b => flat a && flat b
  | .block _ c => flat c
  | .exit _ => true
  | .ret => true
  | _ => false
theorem flat_sound (T : TOk P tt) (HC : ∀ f args res outs, C f args res outs → Contract P f args res outs) (hm : P.follows .mixedOrders = true) {Mn : Nat} {J : List Nat} (hM : Mn ≤ M.size) (hJ : ∀ j, M.J j → j ∈ J) : ∀ (c : Code) {n : Nat} {s : Slots} {h : Heap} {κ : Gh} {m : Nat → Addr} {a : Act} {w : World} {Q : Nat → Ex → Slots → Heap → Prop},
    flat c = true → codeOk Mn J c = true → ewpR C tt (fun _ => false) c n s h Q → St M w κ m n s h a → Stp κ0 w0 κ w → (∀ v u, L0 v u → liveV w κ m n h v u) → c.wp P (UpXK Q M κ0 w0 L0) a w
  | .skip, n, s, h, κ, m, a, w, Q, hf, hc, hk, S, ST, hL => wp_skip ⟨n, s, h, κ, m, hk, S, ST, hL⟩
  | .region id ops draw, n, s, h, κ, m, a, w, Q, hf, hc, hk, S, ST, hL => by
    cases draw with
    | true =>
      replace hk : aopsDR C tt ops.toList ops.toList n 0 s h [] (fun n s h log => regOk ops log = true ∧ Q n .normal s h) := hk
      rw [aopsDR_eq] at hk
      exact draw_regionK (L0 := L0) T HC hm (K := fun n s h log => regOk ops log = true ∧ Q n .normal s h) hk (fun _ _ _ _ hk => hk.1) S ST (dstOk_at hM hJ hc) hL (fun a w hu => by
        obtain ⟨n, s, h, κ, m, ⟨log, hk⟩, S, ST, hL⟩ := hu
        exact ⟨n, s, h, κ, m, hk.2, S, ST, hL⟩)
    | false =>
      replace hk : aopsR C tt ops.toList ops.toList n s h (fun n s h => Q n .normal s h) := hk
      rw [aopsR_eq] at hk
      exact wp_region_list (aopsK_sound (K := fun n s h => Q n .normal s h) T HC (fun a w hu => hu) hk S ST hL (dstOk_at hM hJ hc))
  | .seq x y, n, s, h, κ, m, a, w, Q, hf, hc, hk, S, ST, hL => by
    simp only [codeOk, Bool.and_eq_true] at hc
    simp only [flat, Bool.and_eq_true] at hf
    replace hk : ewpR C tt (fun _ => false) x n s h (fun n e s h => match e with | .normal => ewpR C tt (fun _ => false) y n s h Q | .exit i => Q n (.exit i) s h | .ret => Q n .ret s h) := hk
    refine wp_seq (wp_mono (flat_sound T HC hm hM hJ x hf.1 hc.1 hk S ST hL) fun e a w hq => ?_)
    cases e with
    | normal =>
      obtain ⟨n, s, h, κ, m, hk, S, ST, hL⟩ := hq
      exact flat_sound T HC hm hM hJ y hf.2 hc.2 hk S ST hL
    | exit i => exact hq
    | ret => exact hq
    | _ => exact (show False from hq).elim
  | .cond c x y, n, s, h, κ, m, a, w, Q, hf, hc, hk, S, ST, hL => by
    simp only [codeOk, Bool.and_eq_true] at hc
    simp only [flat, Bool.and_eq_true] at hf
    replace hk : ewpCond c x y (ewpR C tt (fun _ => false) x) (ewpR C tt (fun _ => false) y) n s h Q := hk
    unfold ewpCond at hk
    split at hk
    · rename_i t
      split at hk
      · rename_i v hv
        obtain ⟨h1, h2⟩ := S.rel.slot t v hv
        have he : ∀ b, a.tmps.getD t undef = .bool b → a.eval (.tmp t) = .bool b := fun b hb => hb
        have St' : ∀ v', norm v' = norm v → St M w κ m n (put s (some t) v') h a := fun v' hv' => ⟨S.rel.retell (put_norm hv hv'), S.fr⟩
        split at hk
        · exact wp_cond (t := true) (he _ h2) (flat_sound T HC hm hM hJ x hf.1 hc.1 hk S ST hL)
        · exact wp_cond (t := false) (he _ h2) (flat_sound T HC hm hM hJ y hf.2 hc.2 hk S ST hL)
        · rename_i b
          cases b with
          | true => exact wp_cond (t := true) (he _ h2) (flat_sound T HC hm hM hJ x hf.1 hc.1 (hk.1 rfl) (St' .tt rfl) ST hL)
          | false => exact wp_cond (t := false) (he _ h2) (flat_sound T HC hm hM hJ y hf.2 hc.2 (hk.2 rfl) (St' .ff rfl) ST hL)
        · exact hk.elim
      · exact hk.elim
    · exact hk.elim
  | .block id c, n, s, h, κ, m, a, w, Q, hf, hc, hk, S, ST, hL => by
    replace hk : ewpR C tt (fun _ => false) c n s h (fun n e s h => match e with | .normal => Q n .normal s h | .exit j => bif Nat.beq j id then Q n .normal s h else Q n (.exit j) s h | .ret => Q n .ret s h) := hk
    refine wp_block (wp_mono (flat_sound T HC hm hM hJ c hf hc hk S ST hL) fun e a w hq => ?_)
    cases e with
    | normal => exact hq
    | exit i =>
      obtain ⟨n, s, h, κ, m, hk, S, ST, hL⟩ := hq
      simp only [Exit.inBlock]
      cases hb : Nat.beq i id with
      | true =>
        simp only [hb, cond_true] at hk
        rw [if_pos (Nat.eq_of_beq_eq_true hb)]
        exact ⟨n, s, h, κ, m, hk, S, ST, hL⟩
      | false =>
        simp only [hb, cond_false] at hk
        rw [if_neg (fun e => by rw [e, beqT] at hb; cases hb)]
        exact ⟨n, s, h, κ, m, hk, S, ST, hL⟩
    | ret => exact hq
    | _ => exact (show False from hq).elim
  | .loop c, n, s, h, κ, m, a, w, Q, hf, hc, hk, S, ST, hL => by cases hf
  | .exit id, n, s, h, κ, m, a, w, Q, hf, hc, hk, S, ST, hL => wp_exit ⟨n, s, h, κ, m, hk, S, ST, hL⟩
  | .ret, n, s, h, κ, m, a, w, Q, hf, hc, hk, S, ST, hL => wp_ret ⟨n, s, h, κ, m, hk, S, ST, hL⟩
  | .rangeFunc .., n, s, h, κ, m, a, w, Q, hf, hc, hk, S, ST, hL => by cases hf
  | .scope .., n, s, h, κ, m, a, w, Q, hf, hc, hk, S, ST, hL => by cases hf
  | .label .., n, s, h, κ, m, a, w, Q, hf, hc, hk, S, ST, hL => by cases hf
  | .goto .., n, s, h, κ, m, a, w, Q, hf, hc, hk, S, ST, hL => by cases hf
  | .refuse .., n, s, h, κ, m, a, w, Q, hf, hc, hk, S, ST, hL => by cases hf

/-- Results in slots. -/
def resT (s : Slots) (l : List ResultVar) (K : List AV → Prop) : Prop := match l with
  | [] => K []
  | .tmp t :: r => opv s (.tmp t) fun v => resT s r fun vs => K (v :: vs)
  | .cell _ _ :: _ => False
theorem resT_sound : ∀ {l : List ResultVar} {K : List AV → Prop}, Rel w κ m n s h a → resT s l K → ∃ vs us, K vs ∧ (∀ c, relL w κ (liveV w κ m n h) none c vs us) ∧ vs.length = l.length ∧
    (List.mapM (m := Sem) (fun (x : ResultVar) => match x with
      | .tmp t => pure (a.tmps.getD t undef)
      | .cell b t => do loadVar t (← asAddr (a.tmps.getD b undef))) l).run P w = Result.ok us w
  | [], K, R, hk => ⟨[], [], hk, fun c => rfl, rfl, by simp⟩
  | .tmp t :: l, K, R, hk => by
    obtain ⟨v, hk, hv⟩ := opv_sound R (show opv s (.tmp t) _ from hk)
    obtain ⟨vs, us, hk, hr, hl, hrun⟩ := resT_sound R hk
    refine ⟨v :: vs, a.tmps.getD t undef :: us, hk, fun c => ⟨_, _, rfl, relV_move (fun b hb => ⟨hb, rfl⟩) (fun _ _ h => h) v _ _ _ (by simp [kid, KeyMap]) hv, hr _⟩, by simp [hl], ?_⟩
    rw [List.mapM_cons]
    simp only [Sem.run_bind, Sem.run_pure, Result.andThen_ok, hrun]
  | .cell b t :: l, K, R, hk => hk.elim
/-- A call, gone through in its place. -/
def inlK (C : FuncId → List AV → AV → List (Option AV) → Prop) (tt : TypeId → Option TI) (c : Call) (fn : Func) (n : Nat) (s : Slots) (h : Heap) (K : Nat → AV → Heap → Prop) : Prop :=
  match fn.body with
  | none => False
  | some code => opvs s c.args.toList fun vs => ewpR C tt (fun _ => false) code n (slots (number 0 vs)) h fun n e s h => match e with
    | .exit _ => False
    | _ => resT s fn.results.toList fun rs => K n (tuple rs) h
/-- A function that may be gone through in its place. -/
def inlOk (P : Program) (f : FuncId) (fn : Func) : Prop := P.funcs[f]? = some fn ∧ (fn.name == "runtime.NumGoroutine") = false ∧ (match fn.body with | some c => flat c && codeOk fn.ntmps [] c | none => false) = true
theorem inl_sound (T : TOk P tt) (HC : ∀ f args res outs, C f args res outs → Contract P f args res outs) (hm : P.follows .mixedOrders = true) {f : FuncId} {fn : Func} (hfn : inlOk P f fn) (S : St M w κ m n s h a) (ST : Stp κ0 w0 κ w) {o : Oper} {c : Call} (ho : o.op = .call c) (hc : c.callee = .value (.func f)) {K : Nat → AV → Heap → Prop} (hk : inlK C tt c fn n s h K) :
    o.wp P a w (fun a' w' => ∃ n' v h' κ' m' u, K n' v h' ∧ a' = a.put o.dst u ∧ relV w' κ' (liveV w' κ' m' n' h') none v u ∧ Rel w' κ' m' n' s h' a ∧ Stp κ0 w0 κ' w') (fun _ _ _ => False) := by
  obtain ⟨hf, hname, hcode⟩ := hfn
  unfold inlK at hk
  split at hk
  · exact hk.elim
  · rename_i code hb
    rw [hb] at hcode
    simp only [Bool.and_eq_true] at hcode
    obtain ⟨vs, hk, hvs⟩ := opvs_sound (K := fun _ => True) S.rel hk
    generalize hvals : c.args.toList.map a.eval = vals at hvs
    have hlen2 : vs.length = vals.length := (relL_get (hvs 0)).1.symm
    let a0 : Act := { tmps := vals.toArray ++ Array.replicate (fn.ntmps - vals.toArray.size) undef, defers := [] }
    have R0 : Rel w κ m n (slots (number 0 vs)) h a0 := by
      refine ⟨fun t v ht => ?_, S.rel.blk, S.rel.low, S.rel.fresh⟩
      obtain ⟨_, ht⟩ := number_get ht
      have ht : vs[t]? = some v := by simpa using ht
      have hlt : t < vals.length := by have := (List.getElem?_eq_some_iff.1 ht).1; omega
      refine ⟨by simp [a0]; omega, ?_⟩
      have := (relL_get (hvs 0)).2 t v vals[t] ht (List.getElem?_eq_getElem hlt)
      have e : a0.tmps.getD t undef = vals[t] := by
        simp [a0, Array.getD_eq_getD_getElem?, Array.getElem?_append, hlt]
      rw [e]
      exact relV_move (fun b hb => ⟨hb, rfl⟩) (fun _ _ h => h) v _ _ _ (by simp [kid, KeyMap]) this
    have hrun : (execOp a.eval o).run P w = .ok (.enter f vals.toArray) w := by
      have hname' : fn.name ≠ "runtime.NumGoroutine" := by simpa using hname
      have := call_run (P := P) (a := a) (w := w) (cap := []) (f := f) ho hc rfl
      rw [List.append_nil, hvals] at this
      rw [this]
      simp [callFunc, hf, hname', hb, go_sem]
    unfold Oper.wp
    rw [hrun, Oper.upon_enter]
    refine Calls.mono (calls_of_wp (R := fun e w' => ∃ v, e = .returned v ∧ ∃ n' x h' κ' m', K n' x h' ∧ relV w' κ' (liveV w' κ' m' n' h') none x v ∧ Rel w' κ' m' n' s h' a ∧ Stp κ0 w0 κ' w') hf hb ?_) fun e w' he => ?_
    · let FM : Fm := ⟨a0.tmps.size, (· ∈ ([] : List Nat)), fun j => a0.tmps.getD j undef⟩
      refine wp_mono (flat_sound (M := FM) (κ0 := κ) (w0 := w) (L0 := liveV w κ m n h) T HC hm (by simp [FM, a0]; omega) (fun j hj => hj) code hcode.1 hcode.2 hk ⟨R0, rfl, rfl, fun _ _ => rfl⟩ (Stp.refl _ _) (fun _ _ h => h)) fun e a' w' hq => ?_
      have fin : ∀ {n' : Nat} {s' : Slots} {h' : Heap} {κ' : Gh} {m' : Nat → Addr}, St FM w' κ' m' n' s' h' a' → Stp κ w κ' w' → (∀ v u, liveV w κ m n h v u → liveV w' κ' m' n' h' v u) → (resT s' fn.results.toList fun rs => K n' (tuple rs) h') →
          a'.defers = [] ∧ ∃ v, (results fn a'.tmps).run P w' = .ok v w' ∧ ∃ v', Ending.returned v = .returned v' ∧ ∃ n' x h' κ' m', K n' x h' ∧ relV w' κ' (liveV w' κ' m' n' h') none x v' ∧ Rel w' κ' m' n' s h' a ∧ Stp κ0 w0 κ' w' := by
        intro n' s' h' κ' m' S' ST' hL hk
        obtain ⟨rs, us, hk, hr, hl, hrun⟩ := resT_sound (P := P) S'.rel hk
        have hsz : us.toArray.size = rs.length := by
          have := (relL_get (hr 0)).1
          simpa using this
        refine ⟨S'.fr.defers, _, ?_, _, rfl, n', _, h', κ', m', hk, resVal hr hsz, ⟨fun t v ht => ?_, S'.rel.blk, S'.rel.low, S'.rel.fresh⟩, ST.trans ST'⟩
        · unfold results
          rw [Array.mapM_eq_mapM_toList]
          have e2 : ∀ X : Sem (List Value), (List.toArray <$> X).run P w' = (X.run P w').andThen fun l w => .ok l.toArray w := fun X => by
            show Sem.run P (X >>= fun l => pure l.toArray) w' = _
            simp only [Sem.run_bind, Sem.run_pure]
          rw [Sem.run_bind, e2]
          refine (congrArg (fun r => Result.andThen (Result.andThen r fun l w => .ok l.toArray w) _) hrun).trans ?_
          simp only [Result.andThen_ok, Sem.run_pure]
        · obtain ⟨h1, h2⟩ := S.rel.slot t v ht
          exact ⟨h1, relV_move (ST'.immMap S.rel.low) hL v none none _ .none_ h2⟩
      cases e with
      | normal =>
        obtain ⟨n, s, h, κ', m, hk, S, ST, hL⟩ := hq
        exact fin S ST hL hk
      | ret =>
        obtain ⟨n, s, h, κ', m, hk, S, ST, hL⟩ := hq
        exact fin S ST hL hk
      | exit i =>
        obtain ⟨n, s, h, κ', m, hk, S, ST, hL⟩ := hq
        exact hk.elim
      | _ => exact (show False from hq).elim
    · obtain ⟨v, rfl, n', x, h', κ', m', h1, h2, h3, h4⟩ := he
      exact ⟨n', x, h', κ', m', v, h1, rfl, h2, h3, h4⟩
end
section
variable (C : FuncId → List AV → AV → List (Option AV) → Prop) (tt : TypeId → Option TI) (inl : FuncId → Option Func)
def inlOf (o : Oper) : Option (Call × FuncId × Func) := match o.op with
  | .call c => (match c.callee with | .value (.func f) => (match inl f with | some fn => some (c, f, fn) | none => none) | _ => none)
  | _ => none
def aopsICons (all : List Oper) (o : Oper) (rest : List Oper) (ih : WpA) : WpA := fun n s h K => match inlOf inl o with
  | some x => (match o.guard with | none => inlK C tt x.1 x.2.2 n s h fun n v h => ih n (put s o.dst v) h K | some _ => False)
  | none => aopsCons C tt all o rest ih n s h K
def aopsIR (all ops : List Oper) : WpA := List.rec (motive := fun _ => WpA) aopsNil (aopsICons C tt inl all) ops
def ewpRegI0 (ops : Array Oper) (draw : Bool) : WpC := fun n s h Q => match draw with
  | false => aopsIR C tt inl ops.toList ops.toList n s h fun n s h => Q n .normal s h
  | true => aopsDR C tt ops.toList ops.toList n 0 s h [] fun n s h log => regOk ops log = true ∧ Q n .normal s h
def ewpRegI1 (cut : Nat → Bool) (id : Nat) (ops : Array Oper) (draw : Bool) : WpC := fun n s h Q => match cut id with
  | false => ewpRegI0 C tt inl ops draw n s h Q
  | true => ∃ (α : Type) (S : α → Loose) (a : α), Weak s h (S a) ∧ ∀ (a : α), forceNat (nextId (S a)) fun n => ewpRegI0 C tt inl ops draw n (slots (S a).s) (heap (S a).h) Q
/-- A region; where a slot and a type are told, what lies behind the slot gets names first. -/
def ewpRegI (pre : Nat → Option (Nat × TypeId)) (cut : Nat → Bool) (id : Nat) (ops : Array Oper) (draw : Bool) : WpC := fun n s h Q => match pre id with
  | none => ewpRegI1 C tt inl cut id ops draw n s h Q
  | some x => ty tt x.2 fun i => opv s (.tmp x.1) fun a => load n i a h fun _ n _ h => ewpRegI1 C tt inl cut id ops draw n s h Q
def ewpI (pre : Nat → Option (Nat × TypeId)) (cut : Nat → Bool) (c : Code) : WpC := Code.rec (motive := fun _ => WpC) ewpSkip (ewpRegI C tt inl pre cut) ewpSeq ewpCond ewpBlock ewpLoop (fun _ _ _ _ _ _ => ewpBad) ewpExit (fun _ _ => ewpBad) (fun _ => ewpBad) (fun _ => ewpBad) ewpRet (fun _ => ewpBad) c
def ewpGI (pre : Nat → Option (Nat × TypeId)) (cut : Nat → Bool) (fn : Func) (args : List AV) (res : AV) (outs : List (Option AV)) : Prop :=
  match fn.body with
  | none => False
  | some c => openAs 0 (heap []) args fun n vs h => ewpI C tt inl pre cut c n (slots (number 0 vs)) h fun n e s h =>
    match e with
    | .exit _ => False
    | _ => resultsV tt fn.results.toList n s h fun rs h => closeV 40 .mv h [] (tuple rs) fun r h vis => (match vis with | [] => Sim r res ∧ outsK h s 0 outs | _ => False)
end
section
variable {P : Program} {w w' w0 : World} {κ κ' κ0 κ3 κc : Gh} {m m' : Nat → Addr} {n n' N : Nat} {M : Fm} {s s' : Slots} {h h' : Heap} {a : Act} {L L' L0 : AV → Value → Prop} {tt : TypeId → Option TI} {C : FuncId → List AV → AV → List (Option AV) → Prop} {cut : Nat → Bool} {pre : Nat → Option (Nat × TypeId)} {inl : FuncId → Option Func}
theorem aopsIR_sound (T : TOk P tt) (HC : ∀ f args res outs, C f args res outs → Contract P f args res outs) (hm : P.follows .mixedOrders = true) (hinl : ∀ f fn, inl f = some fn → inlOk P f fn) {opsA : Array Oper} {Q : Exit → Act → World → Prop} {K : Nat → Slots → Heap → Prop} (hQ : ∀ a w, Up K M κ0 w0 a w → Q .normal a w) :
    ∀ {ops : List Oper} {n : Nat} {s : Slots} {h : Heap} {κ : Gh} {m : Nat → Addr} {a : Act} {w : World}, aopsIR C tt inl opsA.toList ops n s h K → St M w κ m n s h a → Stp κ0 w0 κ w → (∀ o ∈ ops, ∀ d, o.dst = some d → M.ok d) → wpList P opsA Q ops a w
  | [], n, s, h, κ, m, a, w, hk, S, ST, hb => hQ a w ⟨n, s, h, κ, m, hk, S, ST⟩
  | o :: rest, n, s, h, κ, m, a, w, hk, S, ST, hb => by
    have hb' : ∀ o ∈ rest, ∀ d, o.dst = some d → M.ok d := fun o ho => hb o (List.mem_cons_of_mem _ ho)
    have hd := hb o (List.mem_cons_self ..)
    replace hk : aopsICons C tt inl opsA.toList o rest (aopsIR C tt inl opsA.toList rest) n s h K := hk
    unfold aopsICons at hk
    split at hk
    · rename_i x hx
      obtain ⟨c, f, fn⟩ := x
      split at hk
      · rename_i hg
        unfold inlOf at hx
        split at hx
        · rename_i c' ho
          split at hx
          · rename_i f' hc
            split at hx
            · rename_i fn' hfn
              injection hx with hx
              injection hx with h1 h2
              injection h2 with h2 h3
              subst h1 h2 h3
              unfold wpList
              rw [if_pos (by simp [Region.wanted, hg])]
              refine .inl (Oper.wp_mono2 (fun a' w' hp => ?_) (fun _ _ _ h => h) (inl_sound T HC hm (hinl _ _ hfn) S ST ho hc hk))
              obtain ⟨n', v, h', κ', m', u, hk, rfl, hv, R, S'⟩ := hp
              exact aopsIR_sound T HC hm hinl hQ hk (St.put ⟨R, S.fr⟩ hd hv) S' hb'
            · cases hx
          · cases hx
        · cases hx
      · exact hk.elim
    · have yes : ∀ {s : Slots}, St M w κ m n s h a → Region.wanted o (yielded opsA a.tmps) = true → aop C tt n o s h (fun _ n v h => aopsIR C tt inl opsA.toList rest n (put s o.dst v) h K) → wpList P opsA Q (o :: rest) a w := fun {s} S hw hk => by
        unfold wpList
        rw [if_pos hw]
        refine .inl (Oper.wp_mono2 (fun a' w' hp => ?_) (fun _ _ _ h => h) (aop_sound T HC S.rel hk))
        obtain ⟨f, n', v, h', κ', m', u, hk, hn, rfl, hv, R, S', _⟩ := hp
        exact aopsIR_sound T HC hm hinl hQ hk (St.put ⟨R, S.fr⟩ hd hv) (ST.trans S') hb'
      have no : ∀ {s : Slots}, St M w κ m n s h a → Region.wanted o (yielded opsA a.tmps) = false → aopsIR C tt inl opsA.toList rest n (put s o.dst (.tup [])) h K → wpList P opsA Q (o :: rest) a w := fun {s} S hw hk => by
        unfold wpList
        rw [if_neg (by rw [hw]; simp)]
        exact aopsIR_sound T HC hm hinl hQ hk (St.put S hd tup_rel) ST hb'
      unfold aopsCons at hk
      split at hk
      · rename_i hg
        exact yes S (by simp [Region.wanted, hg]) hk
      · rename_i j want hg
        split at hk
        · rename_i oj hj
          split at hk
          · rename_i d hdj
            split at hk
            · rename_i b hsd
              obtain ⟨hlt, hrel⟩ := S.rel.slot d b hsd
              split at hk
              · have hrel : a.tmps.getD d undef = .bool true := hrel
                cases want with
                | true => exact yes S (wanted_yes hg hj hdj hlt hrel) hk
                | false => exact no S (wanted_no hg hj hdj hlt (by rw [hrel]; simp)) hk
              · have hrel : a.tmps.getD d undef = .bool false := hrel
                cases want with
                | false => exact yes S (wanted_yes hg hj hdj hlt hrel) hk
                | true => exact no S (wanted_no hg hj hdj hlt (by rw [hrel]; simp)) hk
              · rename_i b
                have hrel : a.tmps.getD d undef = .bool b := hrel
                have St' : ∀ v', norm v' = .bool b → St M w κ m n (put s (some d) v') h a := fun v' hv' => ⟨S.rel.retell (put_norm hsd hv'), S.fr⟩
                cases want with
                | true =>
                  cases b with
                  | true => exact yes (St' .tt rfl) (wanted_yes hg hj hdj hlt hrel) (hk.1 rfl)
                  | false => exact no (St' .ff rfl) (wanted_no hg hj hdj hlt (by rw [hrel]; simp)) (hk.2 rfl)
                | false =>
                  cases b with
                  | false => exact yes (St' .ff rfl) (wanted_yes hg hj hdj hlt hrel) (hk.1 rfl)
                  | true => exact no (St' .tt rfl) (wanted_no hg hj hdj hlt (by rw [hrel]; simp)) (hk.2 rfl)
              · obtain ⟨vs, hu, hvs⟩ := hrel
                exact no S (wanted_no hg hj hdj hlt (by rw [hu]; simp)) hk
              · exact hk.elim
            · exact hk.elim
          · exact hk.elim
        · exact hk.elim
theorem ewpI_sound (T : TOk P tt) (HC : ∀ f args res outs, C f args res outs → Contract P f args res outs) (hinl : ∀ f fn, inl f = some fn → inlOk P f fn) (hm : P.follows .mixedOrders = true) {Mn : Nat} {J : List Nat} (hM : Mn ≤ M.size) (hJ : ∀ j, M.J j → j ∈ J) : ∀ (c : Code) {n : Nat} {s : Slots} {h : Heap} {κ : Gh} {m : Nat → Addr} {a : Act} {w : World} {Q : Nat → Ex → Slots → Heap → Prop},
    codeOk Mn J c = true → ewpI C tt inl pre cut c n s h Q → St M w κ m n s h a → Stp κ0 w0 κ w → c.wp P (UpX Q M κ0 w0) a w
  | .skip, n, s, h, κ, m, a, w, Q, hc, hk, S, ST => wp_skip ⟨n, s, h, κ, m, hk, S, ST⟩
  | .region id ops draw, n, s, h, κ, m, a, w, Q, hc, hk, S, ST => by
    have base : ∀ {n : Nat} {s : Slots} {h : Heap} {κ : Gh} {m : Nat → Addr}, ewpRegI0 C tt inl ops draw n s h Q → St M w κ m n s h a → Stp κ0 w0 κ w → (Code.region id ops draw).wp P (UpX Q M κ0 w0) a w := fun {n s h κ m} hk S ST => by
      cases draw with
      | false =>
        replace hk : aopsIR C tt inl ops.toList ops.toList n s h (fun n s h => Q n .normal s h) := hk
        exact wp_region_list (aopsIR_sound (K := fun n s h => Q n .normal s h) T HC hm hinl (fun a w hu => hu) hk S ST (dstOk_at hM hJ hc))
      | true =>
        replace hk : aopsDR C tt ops.toList ops.toList n 0 s h [] (fun n s h log => regOk ops log = true ∧ Q n .normal s h) := hk
        rw [aopsDR_eq] at hk
        exact draw_region T HC hm (K := fun n s h log => regOk ops log = true ∧ Q n .normal s h) hk (fun _ _ _ _ hk => hk.1) S ST (dstOk_at hM hJ hc) (fun a w hu => by
          obtain ⟨n, s, h, κ, m, ⟨log, hk⟩, S, ST⟩ := hu
          exact ⟨n, s, h, κ, m, hk.2, S, ST⟩)
    have mid : ∀ {n : Nat} {s : Slots} {h : Heap} {κ : Gh} {m : Nat → Addr}, ewpRegI1 C tt inl cut id ops draw n s h Q → St M w κ m n s h a → Stp κ0 w0 κ w → (Code.region id ops draw).wp P (UpX Q M κ0 w0) a w := fun {n s h κ m} hk S ST => by
      unfold ewpRegI1 at hk
      split at hk
      · exact base hk S ST
      · obtain ⟨α, F, x0, hw0, hall⟩ := hk
        obtain ⟨κ', m', R, ST'⟩ := Weak_sound S.rel hw0
        exact base (forceNat_eq (hall x0)) ⟨R, S.fr⟩ (ST.trans ST')
    replace hk : ewpRegI C tt inl pre cut id ops draw n s h Q := hk
    unfold ewpRegI at hk
    split at hk
    · exact mid hk S ST
    · rename_i x hx
      obtain ⟨b, t⟩ := x
      obtain ⟨i, ht, hk⟩ := ty_sound hk
      cases hsb : s b with
      | none => simp only [opv, hsb] at hk
      | some vb =>
        obtain ⟨hlt, hrb⟩ := S.rel.slot b vb hsb
        simp only [opv, hsb] at hk
        let o : Oper := { dst := some b, op := .load t (.tmp b), type := t, pos := "", after := #[], guard := none }
        have hok := ok_load T S.rel (o := o) (K := fun _ n _ h => ewpRegI1 C tt inl cut id ops draw n s h Q) rfl ht (v := vb) hrb hk
        obtain ⟨u, hu⟩ := load_run T S.rel (o := o) rfl ht (v := vb) hrb hk
        unfold OpOk Oper.wp at hok
        rw [hu] at hok
        obtain ⟨f, n1, v1, h1, κ1, m1, u1, hk1, _, _, _, R1, ST1, _⟩ := hok
        exact mid hk1 ⟨R1, S.fr⟩ (ST.trans ST1)
  | .seq x y, n, s, h, κ, m, a, w, Q, hc, hk, S, ST => by
    simp only [codeOk, Bool.and_eq_true] at hc
    replace hk : ewpI C tt inl pre cut x n s h (fun n e s h => match e with | .normal => ewpI C tt inl pre cut y n s h Q | .exit i => Q n (.exit i) s h | .ret => Q n .ret s h) := hk
    refine wp_seq (wp_mono (ewpI_sound T HC hinl hm hM hJ x hc.1 hk S ST) fun e a w hq => ?_)
    cases e with
    | normal =>
      obtain ⟨n, s, h, κ, m, hk, S, ST⟩ := hq
      exact ewpI_sound T HC hinl hm hM hJ y hc.2 hk S ST
    | exit i => exact hq
    | ret => exact hq
    | _ => exact (show False from hq).elim
  | .cond c x y, n, s, h, κ, m, a, w, Q, hc, hk, S, ST => by
    simp only [codeOk, Bool.and_eq_true] at hc
    replace hk : ewpCond c x y (ewpI C tt inl pre cut x) (ewpI C tt inl pre cut y) n s h Q := hk
    unfold ewpCond at hk
    split at hk
    · rename_i t
      split at hk
      · rename_i v hv
        obtain ⟨h1, h2⟩ := S.rel.slot t v hv
        have he : ∀ b, a.tmps.getD t undef = .bool b → a.eval (.tmp t) = .bool b := fun b hb => hb
        have St' : ∀ v', norm v' = norm v → St M w κ m n (put s (some t) v') h a := fun v' hv' => ⟨S.rel.retell (put_norm hv hv'), S.fr⟩
        split at hk
        · exact wp_cond (t := true) (he _ h2) (ewpI_sound T HC hinl hm hM hJ x hc.1 hk S ST)
        · exact wp_cond (t := false) (he _ h2) (ewpI_sound T HC hinl hm hM hJ y hc.2 hk S ST)
        · rename_i b
          cases b with
          | true => exact wp_cond (t := true) (he _ h2) (ewpI_sound T HC hinl hm hM hJ x hc.1 (hk.1 rfl) (St' .tt rfl) ST)
          | false => exact wp_cond (t := false) (he _ h2) (ewpI_sound T HC hinl hm hM hJ y hc.2 (hk.2 rfl) (St' .ff rfl) ST)
        · exact hk.elim
      · exact hk.elim
    · exact hk.elim
  | .block id c, n, s, h, κ, m, a, w, Q, hc, hk, S, ST => by
    replace hk : ewpI C tt inl pre cut c n s h (fun n e s h => match e with | .normal => Q n .normal s h | .exit j => bif Nat.beq j id then Q n .normal s h else Q n (.exit j) s h | .ret => Q n .ret s h) := hk
    refine wp_block (wp_mono (ewpI_sound T HC hinl hm hM hJ c hc hk S ST) fun e a w hq => ?_)
    cases e with
    | normal => exact hq
    | exit i =>
      obtain ⟨n, s, h, κ, m, hk, S, ST⟩ := hq
      simp only [Exit.inBlock]
      cases hb : Nat.beq i id with
      | true =>
        simp only [hb, cond_true] at hk
        rw [if_pos (Nat.eq_of_beq_eq_true hb)]
        exact ⟨n, s, h, κ, m, hk, S, ST⟩
      | false =>
        simp only [hb, cond_false] at hk
        rw [if_neg (fun e => by rw [e, beqT] at hb; cases hb)]
        exact ⟨n, s, h, κ, m, hk, S, ST⟩
    | ret => exact hq
    | _ => exact (show False from hq).elim
  | .loop c, n, s, h, κ, m, a, w, Q, hc, hk, S, ST => by
    replace hk : ewpLoop c (ewpI C tt inl pre cut c) n s h Q := hk
    obtain ⟨α, F, μ, x0, hw0, hround⟩ := hk
    have key : ∀ (k : Nat) (x : α) (κ : Gh) (m : Nat → Addr) (a : Act) (w : World), μ x < k → St M w κ m (nextId (F x)) (slots (F x).s) (heap (F x).h) a → Stp κ0 w0 κ w → Code.rounds P c (UpX Q M κ0 w0) k a w := fun k => by
      induction k with
      | zero => intro x κ m a w hlt; omega
      | succ k ih =>
        intro x κ m a w hlt S ST
        rw [rounds_succ]
        refine wp_mono (ewpI_sound T HC hinl hm hM hJ c hc (forceNat_eq (hround x)) S ST) fun e a w hq => ?_
        cases e with
        | normal =>
          obtain ⟨n, s, h, κ, m, ⟨x', hlt', hw⟩, S, ST⟩ := hq
          obtain ⟨κ', m', R, ST'⟩ := Weak_sound S.rel hw
          exact ih x' κ' m' a w (by omega) ⟨R, S.fr⟩ (ST.trans ST')
        | exit i => exact hq
        | ret => exact hq
        | _ => exact (show False from hq).elim
    obtain ⟨κ', m', R, ST'⟩ := Weak_sound S.rel hw0
    exact wp_loop_rounds (μ x0 + 1) (key _ x0 κ' m' a w (Nat.lt_succ_self _) ⟨R, S.fr⟩ (ST.trans ST'))
  | .exit id, n, s, h, κ, m, a, w, Q, hc, hk, S, ST => wp_exit ⟨n, s, h, κ, m, hk, S, ST⟩
  | .ret, n, s, h, κ, m, a, w, Q, hc, hk, S, ST => wp_ret ⟨n, s, h, κ, m, hk, S, ST⟩
  | .rangeFunc .., n, s, h, κ, m, a, w, Q, hc, hk, S, ST => (show False from hk).elim
  | .scope .., n, s, h, κ, m, a, w, Q, hc, hk, S, ST => (show False from hk).elim
  | .label .., n, s, h, κ, m, a, w, Q, hc, hk, S, ST => (show False from hk).elim
  | .goto .., n, s, h, κ, m, a, w, Q, hc, hk, S, ST => (show False from hk).elim
  | .refuse .., n, s, h, κ, m, a, w, Q, hc, hk, S, ST => (show False from hk).elim

theorem contract_of3 (T : TOk P tt) (HC : ∀ f args res outs, C f args res outs → Contract P f args res outs) (hinl : ∀ f fn, inl f = some fn → inlOk P f fn) (hm : P.follows .mixedOrders = true) {f : FuncId} {fn : Func} (hf : P.funcs[f]? = some fn) (hname : (fn.name == "runtime.NumGoroutine") = false) {args : List AV} {res : AV} {outs : List (Option AV)}
    (hc : (match fn.body with | some c => codeOk fn.ntmps (outsJ 0 outs) c | none => false) = true) (hk : ewpGI C tt inl pre cut fn args res outs) : Contract P f args res outs := by
  intro κ w vals hlow hfr hrel
  unfold ewpGI at hk
  split at hk
  · exact hk.elim
  · rename_i c hb
    rw [hb] at hc
    simp only at hc
    obtain ⟨n', vs, h', hk, _, g, hg, hopen⟩ := openAs_sound (c0 := 0) hk
    -- the arguments under one root
    let κ1 : Gh := fun b => match κ b with | some (.key K) => some (.key (0, (0, K.1) :: K.2)) | x => x
    let κ3 : Gh := fun b => match κ b with | some (.key K) => (match g ((0, K.1) :: K.2) with | some k => some (.key k) | none => none) | x => x
    have hrel1 : relL w κ1 noL (some (0, [])) 0 args vals := relA_L (fun b hb => ⟨by simp [κ1, hb], rfl⟩) (fun j p b hb => by simp [κ1, hb]) hrel
    obtain ⟨m', NW, hvs⟩ := hopen w w κ1 κ3 (fun _ => default) (0, []) vals hrel1 (.inl fun b hb => ⟨by
      cases e : κ b with
      | none => simp [κ1, e] at hb
      | some x => cases x with
        | imm => simp [κ3, e]
        | key K => simp [κ1, e] at hb, rfl⟩) (fun q b k hb hgq => ⟨by
      cases e : κ b with
      | none => simp [κ1, e] at hb
      | some x => cases x with
        | imm => simp [κ1, e] at hb
        | key K =>
          simp only [κ1, e, List.nil_append, Option.some.injEq, G.key.injEq, Prod.mk.injEq, true_and] at hb
          simp only [κ3, e]
          rw [hb, hgq], rfl⟩)
    have hI3 : ∀ b, κ b = some .imm → κ3 b = some .imm := fun b hb => by simp [κ3, hb]
    have hlen : vals.length = args.length := by
      obtain ⟨h1, _⟩ := relL_get hrel1
      exact h1
    have hlen2 : vs.length = vals.length := (relL_get hvs).1.symm
    let a0 : Act := { tmps := vals.toArray ++ Array.replicate (fn.ntmps - vals.toArray.size) undef, defers := [] }
    have R0 : Rel w κ3 m' n' (slots (number 0 vs)) h' a0 := by
      refine ⟨fun t v ht => ?_, fun id b hb => ?_, fun b x hb => ?_, fun b id p hb => ?_⟩
      · obtain ⟨_, ht⟩ := number_get ht
        have ht : vs[t]? = some v := by simpa using ht
        have hlt : t < vals.length := by have := (List.getElem?_eq_some_iff.1 ht).1; omega
        refine ⟨by simp [a0]; omega, ?_⟩
        have := (relL_get hvs).2 t v vals[t] ht (List.getElem?_eq_getElem hlt)
        have e : a0.tmps.getD t undef = vals[t] := by
          simp [a0, Array.getD_eq_getD_getElem?, Array.getElem?_append, hlt]
        rw [e]
        exact relV_move (fun b hb => ⟨hb, rfl⟩) (fun _ _ h => h) v _ _ _ (by simp [kid, KeyMap]) this
      · by_cases hlt : id < n'
        · obtain ⟨B, e1, e2⟩ := NW.blk id (Nat.zero_le _) hlt
          rw [hb] at e1
          injection e1 with e1
          subst e1
          exact ⟨hlt, e2 _⟩
        · have := NW.old id (by omega)
          rw [hb] at this
          simp [heap] at this
      · cases e : κ b with
        | none => simp [κ3, e] at hb
        | some x' => exact hlow b x' e
      · cases e : κ b with
        | none => simp [κ3, e] at hb
        | some x' => cases x' with
          | imm => simp [κ3, e] at hb
          | key K =>
            simp only [κ3, e] at hb
            split at hb
            · rename_i k hgk
              injection hb with hb
              injection hb with hb
              subst hb
              exact (hg _ _ hgk).1.2
            · cases hb
    have ST0 : Stp κ w κ3 w := ⟨rfl, rfl, rfl, Nat.le_refl _, fun _ _ _ => rfl, hI3, fun b _ hb => (by simp [κ3, hb]), fun _ C _ _ h => ⟨C, h, rfl⟩⟩
    have hrun : (callFunc f vals.toArray).run P w = .ok (.enter f vals.toArray) w := by
      have hname' : fn.name ≠ "runtime.NumGoroutine" := by simpa using hname
      simp [callFunc, hf, hname', hb, go_sem]
    unfold callRun
    rw [hrun]
    refine calls_of_wp hf hb ?_
    let FM : Fm := ⟨a0.tmps.size, (· ∈ outsJ 0 outs), fun j => a0.tmps.getD j undef⟩
    refine wp_mono (ewpI_sound (cut := cut) (inl := inl) (M := FM) (κ0 := κ) (w0 := w) T HC hinl hm (by simp [FM, a0]; omega) (fun j hj => hj) c hc hk ⟨R0, rfl, rfl, fun _ _ => rfl⟩ ST0) fun e a' w' hq => ?_
    have fin : ∀ {n : Nat} {s : Slots} {h : Heap} {κ' : Gh} {m : Nat → Addr}, St FM w' κ' m n s h a' → Stp κ w κ' w' → (resultsV tt fn.results.toList n s h fun rs h => closeV 40 .mv h [] (tuple rs) fun r h vis => (match vis with | [] => Sim r res ∧ outsK h s 0 outs | _ => False)) →
        a'.defers = [] ∧ ∃ v, (results fn a'.tmps).run P w' = .ok v w' ∧ ∃ v', Ending.returned v = .returned v' ∧ ∃ κf, relV w' κf noL (some (args.length, [])) res v' ∧ relOuts w' κf 0 outs vals ∧ Stp κ w κf w' ∧ (∀ b g, κf b = some g → b < w'.heap.size) ∧ (∀ b id p, κf b = some (.key (id, p)) → id ≤ args.length) := by
      intro n s h κ' m S ST hk
      obtain ⟨rs, us, n1, h1, κ1', m1, hk, R1, ST1, _, hr, hl, hrun⟩ := results_sound T S.rel hk
      have S : St FM w' κ1' m1 n1 s h1 a' := ⟨R1, S.fr⟩
      have ST := ST.trans ST1
      clear ST1 R1
      have hsz : us.toArray.size = rs.length := by
        have := (relL_get (hr 0)).1
        simpa using this
      obtain ⟨r, h2, vis, T1, F1, V1, hk, c1, r1, _⟩ := closeV_sound S.rel (rk := (args.length, [])) (N := args.length + 1) (Nat.lt_succ_self _) (Sub.refl h1) (resVal hr hsz) hk
      split at hk
      · obtain ⟨hsim, hk⟩ := hk
        have := noV c1
        subst this
        obtain ⟨T2, F2, h5, c2, ih⟩ := outsK_sound S.rel (N := args.length) (us := vals) (outs := outs) (j := 0) (by omega) c1.sub (fun i o u ho hu => by
          rw [S.fr.kept _ (outsJ_mem ho)]
          have hlt : i < vals.length := (List.getElem?_eq_some_iff.1 hu).1
          have e : vals[i] = u := by rw [List.getElem?_eq_getElem hlt] at hu; injection hu
          simp [FM, a0, Array.getD_eq_getD_getElem?, Array.getElem?_append, hlt, e]) hk
        have cc := c1.trans (c2.lift (Nat.le_succ _))
        have SP : Spec κ1' (callG κ1' (T1 ++ T2) ((F1 ++ F2) ++ ([] ++ []))) (T1 ++ T2) (F1 ++ F2) ([] ++ []) := spec_callG cc.nodup cc.apart (fun i hi => by simp at hi)
        have SL := Spec.left SP
        have SR := Spec.right SP
        obtain ⟨κ1, x1, hro⟩ := ih _ SR
        have hrv : relV w' κ1 noL (some (args.length, [])) r _ := relV_move (x1.imm w') (fun _ _ h => h) r _ _ _ (x1.keyMap w' fun q hS => Nat.lt_irrefl _ hS.2) (r1 _ SL)
        obtain ⟨κ2, x2, hrv2⟩ := Sim_sound w' hsim noL κ1 (args.length, []) _ hrv
        have hro2 : relOuts w' κ2 0 outs vals := relOuts_move (x2.imm w') (fun j' _ hj => x2.keyMap w' fun q hS => by
          obtain ⟨q', e⟩ := hS
          have e := congrArg Prod.fst e
          simp at e
          omega) hro
        have xx : Fz (callG κ1' (T1 ++ T2) ((F1 ++ F2) ++ ([] ++ []))) κ2 (fun _ => True) := (x1.mono fun _ _ => trivial).trans (x2.mono fun _ _ => trivial)
        have hcg : ∀ b, callG κ1' (T1 ++ T2) ((F1 ++ F2) ++ ([] ++ [])) b ≠ none → κ1' b ≠ none := fun b hb e => hb (by simp [callG, e])
        have hkey : ∀ b K, callG κ1' (T1 ++ T2) ((F1 ++ F2) ++ ([] ++ [])) b = some (.key K) → K.1 ≤ args.length := fun b K hb => by
          unfold callG at hb
          split at hb
          · rename_i K0 hK0
            split at hb
            · rename_i y hy
              injection hb with hb
              injection hb with hb
              have := (cc.tk y (List.mem_of_find?_eq_some hy)).2.2 K0.2
              rw [hb] at this
              omega
            · split at hb <;> cases hb
          · rename_i hne
            exact absurd hb (hne _)
        refine ⟨S.fr.defers, _, ?_, _, rfl, κ2, hrv2, hro2, ST.trans ⟨rfl, rfl, rfl, Nat.le_refl _, fun _ _ _ => rfl, fun b hb => (xx.imm w' b (SP.imm b hb)).1, fun b _ hb => ?_, fun _ C _ _ h => ⟨C, h, rfl⟩⟩, fun b x hb => ?_, fun b id p hb => ?_⟩
        · unfold results
          rw [Array.mapM_eq_mapM_toList]
          have e2 : ∀ X : Sem (List Value), (List.toArray <$> X).run P w' = (X.run P w').andThen fun l w => .ok l.toArray w := fun X => by
            show Sem.run P (X >>= fun l => pure l.toArray) w' = _
            simp only [Sem.run_bind, Sem.run_pure]
          rw [Sem.run_bind, e2]
          refine (congrArg (fun r => Result.andThen (Result.andThen r fun l w => .ok l.toArray w) _) hrun).trans ?_
          simp only [Result.andThen_ok, Sem.run_pure]
        · rcases xx b with e | ⟨_, K, _, e⟩
          · rw [e]; simp [callG, hb]
          · simp [callG, hb] at e
        · cases e : κ1' b with
          | some x' => exact S.rel.low b x' e
          | none =>
            rcases xx b with e2 | ⟨_, K, _, e2⟩
            · rw [e2] at hb; simp [callG, e] at hb
            · simp [callG, e] at e2
        · rcases xx b with e2 | ⟨e2, _⟩
          · rw [e2] at hb; exact hkey b _ hb
          · rw [e2] at hb; cases hb
      · exact hk.elim
    cases e with
    | normal =>
      obtain ⟨n, s, h, κ', m, hk, S, ST⟩ := hq
      exact fin S ST hk
    | ret =>
      obtain ⟨n, s, h, κ', m, hk, S, ST⟩ := hq
      exact fin S ST hk
    | exit i =>
      obtain ⟨n, s, h, κ', m, hk, S, ST⟩ := hq
      exact hk.elim
    | _ => exact (show False from hq).elim
end
end Go.Proofs.VI
end
