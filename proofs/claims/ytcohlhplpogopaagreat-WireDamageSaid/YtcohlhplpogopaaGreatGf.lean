/-
  regions whose order is drawn. (No statement of the seat is proved here.)
-/
import Derived.Test.YtcohlhplpogopaaGreatGe
set_option linter.unusedSimpArgs false
set_option linter.unusedVariables false
namespace Go.Proofs.YtcohlhplpogopaaGreat
namespace A

section
variable {call : Callee}

/-- the reads of the canonical run are on the list. -/
def HasReads (call : Callee) (l : List (Part × CO)) (st : St) (rs : List Rec) : Prop :=
  ∀ i c lo hi s v s', l[i]? = some (.read lo hi, c) → canon call l st i = some s → stepW' call (.read lo hi, c) s = some (v, s') → wanted c.g s.tm = some true → ⟨s.tm, lo, hi, c.o, v⟩ ∈ rs

theorem stepW'_read {lo hi : Nat} {c : CO} {st : St} {v : V} {s' : St} (h : stepW' call (.read lo hi, c) st = some (v, s')) :
    (wanted c.g st.tm = some false ∧ v = undefV ∧ s' = ⟨setD c.d undefV st.tm, st.df, st.h⟩) ∨ (wanted c.g st.tm = some true ∧ (∃ h', stepO c.o st.tm st.h = some (v, h')) ∧ s' = ⟨setD c.d v st.tm, st.df, st.h⟩) := by
  unfold stepW' at h
  split at h
  · rename_i e; cases h; exact .inl ⟨e, rfl, rfl⟩
  · rename_i e
    simp only at h
    generalize hq : stepO c.o st.tm st.h = q at h
    cases q with
    | none => cases h
    | some q => cases h; exact .inr ⟨e, ⟨q.2, rfl⟩, rfl⟩
  · cases h

/-- how the canonical run ends. -/
inductive CanonEnd (call : Callee) : List (Part × CO) → St → OutD → Prop where
  | go (l : List (Part × CO)) (st st' : St) (hs : List H) (rs : List Rec) (h : canon call l st l.length = some st') : CanonEnd call l st (.go st' hs rs)
  | pan (l : List (Part × CO)) (st : St) (v : V) (st' : St) (hs : List H) (rs : List Rec) (K : Nat) (hide : List Nat) (c : CO) (s : St) (h1 : l[K]? = some (.loud true hide, c)) (h2 : canon call l st K = some s) (h3 : stepHW hide call c s (wanted c.g s.tm) = some (.pan v st')) : CanonEnd call l st (.pan v st' hs rs)

theorem CanonEnd.cons {p : Part × CO} {l : List (Part × CO)} {st s1 : St} {v : V} {o : OutD} (h : stepW' call p st = some (v, s1)) (he : CanonEnd call l s1 o) : CanonEnd call (p :: l) st o := by
  cases he with
  | go st' hs rs h1 => exact .go _ _ _ _ _ (by show (stepW' call p st).bind _ = _; rw [h]; exact h1)
  | pan w st' hs rs K hide c s h1 h2 h3 => exact .pan _ _ _ _ _ _ (K + 1) hide c s h1 (by show (stepW' call p st).bind _ = _; rw [h]; exact h2) h3

def OutD.heaps : OutD → List H
  | .go _ hs _ => hs
  | .pan _ _ hs _ => hs
def OutD.recs : OutD → List Rec
  | .go _ _ rs => rs
  | .pan _ _ _ rs => rs

theorem louds_cons {p : Part × CO} {l : List (Part × CO)} {st s1 : St} {v : V} (h : stepW' call p st = some (v, s1)) : louds call (p :: l) st = cond p.1.isLoud (st.h :: louds call l s1) (louds call l s1) := by
  simp only [louds, h]

theorem stepW'_of_pan {last : Bool} {hide : List Nat} {c : CO} {st st' : St} {v : V} (hs : stepHW hide call c st (wanted c.g st.tm) = some (.pan v st')) : stepW' call (.loud last hide, c) st = none := by
  rw [stepHW_core] at hs
  unfold stepW'
  split at hs
  · rename_i e
    rw [e]
    simp only
    generalize core call c.o st.tm st.df _ = q at hs
    cases q with
    | none => cases hs
    | some q =>
      cases q with
      | go v df h => cases hs
      | pan v h => rfl
  · cases hs
  · cases hs

theorem HasReads.cons {p : Part × CO} {l : List (Part × CO)} {st s1 : St} {v : V} {rs : List Rec} (h : stepW' call p st = some (v, s1)) (hr : HasReads call l s1 rs)
    (h0 : ∀ lo hi, p.1 = .read lo hi → wanted p.2.g st.tm = some true → ⟨st.tm, lo, hi, p.2.o, v⟩ ∈ rs) : HasReads call (p :: l) st rs := by
  intro i c lo hi s v' s' h1 h2 h3 h4
  cases i with
  | zero =>
    simp at h1
    subst h1
    cases (show some st = some s from h2)
    rw [h] at h3; cases h3
    exact h0 lo hi rfl h4
  | succ i =>
    have h2' : (stepW' call p st).bind (fun q => canon call l q.2 i) = some s := h2
    rw [h] at h2'
    exact hr i c lo hi s v' s' (by simpa using h1) h2' h3 h4

theorem runD_canon : ∀ {l : List (Part × CO)} {st : St} {hs : List H} {rs : List Rec} {o : OutD}, runD l call st hs rs = some o →
    CanonEnd call l st o ∧ o.heaps.reverse = hs.reverse ++ louds call l st ∧ (∀ r, r ∈ rs → r ∈ o.recs) ∧ HasReads call l st o.recs
  | [], st, hs, rs, o, e => by
    cases (show some (OutD.go st (st.h :: hs) rs) = some o from e)
    refine ⟨.go _ _ _ _ _ rfl, by simp [OutD.heaps, louds], fun r h => h, ?_⟩
    intro i c lo hi s v s' h1
    simp at h1
  | ⟨p, c⟩ :: l, st, hs, rs, o, e => by
    rw [runD_cons] at e
    have quiet : ∀ {st1 : St} {v : V}, (∀ b hd, p ≠ .loud b hd) → (∀ lo hi, p ≠ .read lo hi) → stepW' call (p, c) st = some (v, st1) → runD l call st1 hs rs = some o →
        CanonEnd call (⟨p, c⟩ :: l) st o ∧ o.heaps.reverse = hs.reverse ++ louds call (⟨p, c⟩ :: l) st ∧ (∀ r, r ∈ rs → r ∈ o.recs) ∧ HasReads call (⟨p, c⟩ :: l) st o.recs := by
      intro st1 v hp hp2 h1 h2
      obtain ⟨g1, g2, g3, g4⟩ := runD_canon h2
      refine ⟨g1.cons h1, ?_, g3, g4.cons h1 (fun lo hi e _ => absurd e (hp2 lo hi))⟩
      rw [louds_cons h1, g2]
      cases p with
      | loud b hd => exact absurd rfl (hp b hd)
      | _ => rfl
    unfold dOne at e
    cases p with
    | loud last hide =>
      simp only [dLoud] at e
      split at e
      · rename_i st1 h1
        obtain ⟨v, h2⟩ := stepHW_of_go (last := last) h1
        obtain ⟨g1, g2, g3, g4⟩ := runD_canon e
        refine ⟨g1.cons h2, ?_, g3, g4.cons h2 (fun lo hi e _ => by cases e)⟩
        rw [louds_cons h2, g2, List.reverse_cons, List.append_assoc]
        rfl
      · rename_i v st1 h1
        obtain ⟨hl, e⟩ := condN_some e
        cases e
        subst hl
        have h2 := stepW'_of_pan (last := true) h1
        refine ⟨.pan _ _ _ _ _ _ 0 hide c st rfl rfl h1, ?_, fun r h => h, ?_⟩
        · simp only [OutD.heaps, louds, h2, List.reverse_cons]
        · intro i c' lo hi s v' s' h3 h4
          cases i with
          | zero => simp at h3
          | succ i =>
            have h4' : (stepW' call (.loud true hide, c) st).bind (fun q => canon call l q.2 i) = some s := h4
            rw [h2] at h4'; cases h4'
      · cases e
    | made =>
      simp only [dSilent] at e
      split at e
      · rename_i st1 h1
        obtain ⟨v, h2⟩ := stepW'_of_go (p := (.made, c)) rfl (fun lo hi e => by cases e) h1
        exact quiet (fun b hd e => by cases e) (fun lo hi e => by cases e) h2 e
      · cases e
    | pure =>
      simp only [dSilent] at e
      split at e
      · rename_i st1 h1
        obtain ⟨v, h2⟩ := stepW'_of_go (p := (.pure, c)) rfl (fun lo hi e => by cases e) h1
        exact quiet (fun b hd e => by cases e) (fun lo hi e => by cases e) h2 e
      · cases e
    | read lo hi =>
      simp only [dRead] at e
      split at e
      · rename_i hw
        have h2 : stepW' call (.read lo hi, c) st = some (undefV, ⟨setD c.d undefV st.tm, st.df, st.h⟩) := by simp only [stepW', hw]
        obtain ⟨g1, g2, g3, g4⟩ := runD_canon e
        refine ⟨g1.cons h2, ?_, g3, g4.cons h2 (fun lo' hi' _ h => by rw [hw] at h; cases h)⟩
        rw [louds_cons h2, g2]; rfl
      · rename_i hw
        unfold dReadV at e
        split at e
        · rename_i v h' hq
          have h2 : stepW' call (.read lo hi, c) st = some (v, ⟨setD c.d v st.tm, st.df, st.h⟩) := by simp only [stepW', hw, hq, Option.map_some]
          obtain ⟨g1, g2, g3, g4⟩ := runD_canon e
          refine ⟨g1.cons h2, ?_, fun r hr => g3 r (List.mem_cons_of_mem _ hr), g4.cons h2 (fun lo' hi' e' _ => by cases e'; exact g3 _ (List.mem_cons_self ..))⟩
          rw [louds_cons h2, g2]; rfl
        · cases e
      · cases e

end
end A
end Go.Proofs.YtcohlhplpogopaaGreat

namespace Go.Proofs.YtcohlhplpogopaaGreat
namespace A

section
variable {call : Callee}

/-- the canonical run as a row of states. -/
structure Row (call : Callee) (l : List (Part × CO)) (M : Nat) (S : Nat → St) (val : Nat → V) : Prop where
  step : ∀ i, i < M → ∃ p, l[i]? = some p ∧ stepW' call p (S i) = some (val i, S (i + 1))
  here : ∀ i, i ≤ M → canon call l (S 0) i = some (S i)

theorem canon_zero (l : List (Part × CO)) (st : St) : canon call l st 0 = some st := by cases l <;> rfl

theorem row_of_canon : ∀ (M : Nat) (l : List (Part × CO)) (st sM : St), canon call l st M = some sM → ∃ S val, S 0 = st ∧ S M = sM ∧ Row call l M S val
  | 0, l, st, sM, h => by
    rw [canon_zero] at h; cases h
    exact ⟨fun _ => st, fun _ => undefV, rfl, rfl, ⟨fun i hi => absurd hi (Nat.not_lt_zero _), fun i hi => by rw [Nat.le_zero.1 hi, canon_zero]⟩⟩
  | M + 1, [], st, sM, h => by cases h
  | M + 1, p :: l, st, sM, h => by
    have h' : (stepW' call p st).bind (fun q => canon call l q.2 M) = some sM := h
    cases hq : stepW' call p st with
    | none => rw [hq] at h'; cases h'
    | some q =>
      rw [hq] at h'
      obtain ⟨S, val, h0, h1, hr⟩ := row_of_canon M l q.2 sM h'
      refine ⟨fun i => Nat.casesOn i st fun j => S j, fun i => Nat.casesOn i q.1 fun j => val j, rfl, h1, ⟨?_, ?_⟩⟩
      · intro i hi
        cases i with
        | zero => exact ⟨p, rfl, by show stepW' call p st = some (q.1, S 0); rw [hq, h0]⟩
        | succ i => exact hr.step i (by omega)
      · intro i hi
        cases i with
        | zero => rfl
        | succ i =>
          show (stepW' call p st).bind (fun q => canon call l q.2 i) = some (S i)
          rw [hq]
          show canon call l q.2 i = some (S i)
          rw [← h0]; exact hr.here i (by omega)

/-- what an operation of the canonical run does. -/
inductive Eff (call : Callee) (hide : List Nat) (c : CO) (s : St) (v : V) (s' : St) : Prop where
  | off (h1 : wanted c.g s.tm = some false) (h2 : v = undefV) (h3 : s'.df = s.df) (h4 : s'.h = s.h)
  | still (h1 : wanted c.g s.tm = some true) (hp : partK c.o = .pure ∨ partK c.o = .read) (h2 : stepO c.o s.tm s.h = some (v, s.h)) (h3 : s'.df = s.df) (h4 : s'.h = s.h)
  | made (h1 : wanted c.g s.tm = some true) (hp : partK c.o = .made) (mk : Nat → V) (x : Obj) (hk : ∀ n, numV (mk n) = some n) (h2 : ∀ h, stepO c.o s.tm h = some (mk h.next, h.new x)) (hv : v = mk s.h.next) (h3 : s'.df = s.df) (h4 : s'.h = s.h.new x)
  | loud (h1 : wanted c.g s.tm = some true) (hp : partK c.o = .loud) (h1' : H) (h2 : core call c.o s.tm s.df (hideAll (nums hide s.tm) s.h) = some (.go v s'.df h1')) (h3 : s'.h = backAll (nums hide s.tm) s.h h1')

theorem quietK {c : O} (h : partK c ≠ .loud) : loudO c = false := by
  cases c <;> first | rfl | exact absurd rfl h

theorem stepW'_eff {loud : List Nat} {made : List (Nat × Nat)} {ps : List (List Nat)} {i : Nat} {c : CO} {s s' : St} {v : V} (h : stepW' call (partOf loud made ps i (partK c.o), c) s = some (v, s')) : s'.tm = setD c.d v s.tm ∧ Eff call (hideOf made (ps.getD i []) i) c s v s' := by
  unfold stepW' at h
  split at h
  · rename_i hw; cases h; exact ⟨rfl, .off hw rfl rfl rfl⟩
  · rename_i hw
    have quiet : partK c.o ≠ .loud → ∀ {q : V × H}, stepO c.o s.tm s.h = some q → core call c.o s.tm s.df s.h = some (.go q.1 s.df q.2) := by
      intro hq q hs
      rw [core_quiet (quietK hq), hs]; rfl
    have quiet' : partK c.o ≠ .loud → ∀ {r : CR}, core call c.o s.tm s.df s.h = some r → ∃ q, stepO c.o s.tm s.h = some q ∧ r = .go q.1 s.df q.2 := by
      intro hq r hr
      rw [core_quiet (quietK hq)] at hr
      cases hs : stepO c.o s.tm s.h with
      | none => rw [hs] at hr; cases hr
      | some q => rw [hs] at hr; cases hr; exact ⟨q, rfl, rfl⟩
    cases hk : partK c.o with
    | read =>
      simp only [hk, partOf] at h
      cases hs : stepO c.o s.tm s.h with
      | none => rw [hs] at h; cases h
      | some q =>
        rw [hs] at h; cases h
        have := read_step (v := q.1) (h' := q.2) hk hs
        exact ⟨rfl, .still hw (.inr hk) (by show stepO c.o s.tm s.h = some (q.1, s.h); rw [hs, ← this]) rfl rfl⟩
    | pure =>
      simp only [hk, partOf] at h
      generalize hr : core call c.o s.tm s.df s.h = r at h
      cases r with
      | none => cases h
      | some r =>
        obtain ⟨q, h1, rfl⟩ := quiet' (by rw [hk]; intro e; cases e) hr
        cases h
        obtain ⟨o, ho⟩ := pure_step hk s.tm
        rw [ho] at h1
        cases o with
        | none => cases h1
        | some u => cases h1; exact ⟨rfl, .still hw (.inl hk) (by rw [ho]; rfl) rfl rfl⟩
    | made =>
      simp only [hk, partOf] at h
      generalize hr : core call c.o s.tm s.df s.h = r at h
      cases r with
      | none => cases h
      | some r =>
        obtain ⟨q, h1, rfl⟩ := quiet' (by rw [hk]; intro e; cases e) hr
        cases h
        rcases made_step hk s.tm with hn | ⟨mk, x, hmn, hm⟩
        · rw [hn] at h1; cases h1
        · rw [hm] at h1; cases h1; exact ⟨rfl, .made hw hk mk x hmn hm rfl rfl rfl⟩
    | loud =>
      simp only [hk, partOf] at h
      generalize hr : core call c.o s.tm s.df _ = r at h
      cases r with
      | none => cases h
      | some r =>
        cases r with
        | go v' df h' => cases h; exact ⟨rfl, .loud hw hk h' hr rfl⟩
        | pan v' h' => cases h
  · cases h

theorem core_next (hc : Mono call) {c : O} {tm : TM} {df df' : List D} {h h' : H} {v : V} (hs : core call c tm df h = some (.go v df' h')) : h.next ≤ h'.next := by
  have := act_core (h := h) (tm := tm) call c none df
  rw [hs] at this
  exact act_next (st := ⟨tm, df, h⟩) hc this

theorem Eff.next (hc : Mono call) {hide : List Nat} {c : CO} {s s' : St} {v : V} (h : Eff call hide c s v s') : s.h.next ≤ s'.h.next := by
  cases h with
  | off _ _ _ h4 => rw [h4]; exact Nat.le_refl _
  | still _ _ _ _ h4 => rw [h4]; exact Nat.le_refl _
  | made _ _ mk x _ _ _ _ h4 => rw [h4]; exact Nat.le_succ _
  | loud _ _ h1 h2 h3 =>
    have := core_next hc h2
    rw [hideAll_next] at this
    rw [h3, backAll_next]; exact this

/- what the compiler has checked -/
theorem hasN_mem {l : List Nat} {n : Nat} : hasN l n = true ↔ n ∈ l := by
  unfold hasN
  rw [List.any_eq_true]
  constructor
  · rintro ⟨x, h1, h2⟩; rw [Nat.eq_of_beq_eq_true h2]; exact h1
  · intro h; exact ⟨n, h, Nat.beq_refl n⟩

theorem mem_addN {x : Nat} : ∀ {m l : List Nat}, x ∈ addN l m → x ∈ l ∨ x ∈ m
  | [], l, h => .inl h
  | n :: m, l, h => by
    have h' : x ∈ addN (cond (hasN l n) l (n :: l)) m := h
    rcases mem_addN h' with h1 | h1
    · cases hb : hasN l n with
      | true => rw [hb] at h1; exact .inl h1
      | false =>
        rw [hb] at h1
        rcases List.mem_cons.1 h1 with rfl | h2
        · exact .inr (List.mem_cons_self ..)
        · exact .inl h2
    · exact .inr (List.mem_cons_of_mem _ h1)

theorem mem_preOf_go {acc : List (List Nat)} {k : Nat} : ∀ (es : List Edge) (l : List Nat), k ∈ es.foldl (fun l e => cond (Region.binds .any e) (addN (addN l [e.on]) (acc.getD e.on [])) l) l →
    k ∈ l ∨ ∃ e, e ∈ es ∧ Region.binds .any e = true ∧ (k = e.on ∨ k ∈ acc.getD e.on [])
  | [], l, h => .inl h
  | e :: es, l, h => by
    rcases mem_preOf_go es _ h with h1 | ⟨e', h1, h2, h3⟩
    · replace h1 : k ∈ cond (Region.binds .any e) (addN (addN l [e.on]) (acc.getD e.on [])) l := h1
      cases hb : Region.binds .any e with
      | false => rw [hb] at h1; exact .inl h1
      | true =>
        rw [hb] at h1
        rcases mem_addN h1 with h2 | h2
        · rcases mem_addN h2 with h3 | h3
          · exact .inl h3
          · exact .inr ⟨e, List.mem_cons_self .., hb, .inl (by simpa using h3)⟩
        · exact .inr ⟨e, List.mem_cons_self .., hb, .inr h2⟩
    · exact .inr ⟨e', List.mem_cons_of_mem _ h1, h2, h3⟩

theorem pres_go {k : Nat} : ∀ (ops : List Oper) (acc : List (List Nat)), acc <+: ops.foldl (fun acc o => acc ++ [preOf acc o.after.toList]) acc ∧
    ∀ j, acc.length ≤ j → k ∈ (ops.foldl (fun acc o => acc ++ [preOf acc o.after.toList]) acc).getD j [] →
      ∃ o acc', ops[j - acc.length]? = some o ∧ k ∈ preOf acc' o.after.toList ∧ acc' <+: ops.foldl (fun acc o => acc ++ [preOf acc o.after.toList]) acc
  | [], acc => by
    refine ⟨List.prefix_refl _, fun j hj h => ?_⟩
    simp only [List.foldl_nil] at h
    rw [List.getD_eq_getElem?_getD, List.getElem?_eq_none hj] at h
    simp at h
  | o :: ops, acc => by
    obtain ⟨h1, h2⟩ := pres_go ops (acc ++ [preOf acc o.after.toList])
    rw [List.foldl_cons]
    refine ⟨List.IsPrefix.trans ⟨_, rfl⟩ h1, fun j hj h => ?_⟩
    by_cases e : j = acc.length
    · subst e
      refine ⟨o, acc, by simp, ?_, List.IsPrefix.trans ⟨_, rfl⟩ h1⟩
      obtain ⟨t, ht⟩ := h1
      rw [← ht, List.getD_eq_getElem?_getD, List.append_assoc, List.getElem?_append_right (Nat.le_refl _)] at h
      simpa using h
    · obtain ⟨o', acc', g1, g2, g3⟩ := h2 j (by simp; omega) h
      refine ⟨o', acc', ?_, g2, g3⟩
      rw [List.length_append, List.length_singleton] at g1
      rw [show j - acc.length = (j - (acc.length + 1)) + 1 from by omega, List.getElem?_cons_succ]
      exact g1

theorem pres_mem {ops : List Oper} {j k : Nat} (h : k ∈ (pres ops).getD j []) : ∃ o e, ops[j]? = some o ∧ e ∈ o.after.toList ∧ Region.binds .any e = true ∧ (k = e.on ∨ k ∈ (pres ops).getD e.on []) := by
  obtain ⟨o, acc', h1, h2, h3⟩ := (pres_go (k := k) ops []).2 j (Nat.zero_le _) h
  rcases mem_preOf_go _ _ h2 with h4 | ⟨e, h4, h5, h6⟩
  · cases h4
  · refine ⟨o, e, by simpa using h1, h4, h5, ?_⟩
    rcases h6 with h6 | h6
    · exact .inl h6
    · right
      obtain ⟨t, ht⟩ := h3
      have hp : pres ops = acc' ++ t := ht.symm
      rw [hp, List.getD_eq_getElem?_getD]
      rw [List.getD_eq_getElem?_getD] at h6
      by_cases hl : e.on < acc'.length
      · rw [List.getElem?_append_left hl]; exact h6
      · rw [List.getElem?_eq_none (by omega)] at h6; simp at h6

theorem rowOk_get {ps : List (List Nat)} {i : Nat} {a : CO} : ∀ {l : List CO} {j : Nat}, rowOk ps i a l j = true → ∀ n b, l[n]? = some b → pairOk ps i (j + n) a b = true
  | [], _, _, _, _, h => by simp at h
  | c :: l, j, h, n, b, hb => by
    have h' : and (pairOk ps i j a c) (rowOk ps i a l (j + 1)) = true := h
    rw [Bool.and_eq_true] at h'
    cases n with
    | zero => simp at hb; subst hb; exact h'.1
    | succ n => rw [show j + (n + 1) = j + 1 + n from by omega]; exact rowOk_get h'.2 n b (by simpa using hb)

theorem allOk_get {ps : List (List Nat)} : ∀ {l : List CO} {i0 : Nat}, allOk ps l i0 = true → ∀ i j a b, i < j → l[i]? = some a → l[j]? = some b → pairOk ps (i0 + i) (i0 + j) a b = true
  | [], _, _, _, _, _, _, _, h, _ => by simp at h
  | c :: l, i0, h, i, j, a, b, hij, ha, hb => by
    have h' : and (rowOk ps i0 c l (i0 + 1)) (allOk ps l (i0 + 1)) = true := h
    rw [Bool.and_eq_true] at h'
    cases j with
    | zero => omega
    | succ j =>
      cases i with
      | zero =>
        simp at ha; subst ha
        have := rowOk_get h'.1 j b (by simpa using hb)
        rwa [show i0 + 1 + j = i0 + (j + 1) from by omega] at this
      | succ i =>
        have := allOk_get h'.2 i j a b (by omega) (by simpa using ha) (by simpa using hb)
        rwa [show i0 + 1 + i = i0 + (i + 1) from by omega, show i0 + 1 + j = i0 + (j + 1) from by omega] at this

theorem clash_false {a b : CO} (h : clash a b = false) : (∀ d, a.d = some d → d ∉ uses b ∧ b.d ≠ some d) ∧ (∀ d, b.d = some d → d ∉ uses a) := by
  unfold clash at h
  rw [Bool.or_eq_false_iff] at h
  refine ⟨fun d hd => ?_, fun d hd => ?_⟩
  · have h1 := h.1
    rw [hd] at h1
    simp only [Bool.or_eq_false_iff] at h1
    refine ⟨fun hm => ?_, fun hb => ?_⟩
    · rw [hasN_mem.2 hm] at h1; cases h1.1
    · rw [hb] at h1
      have h2 := h1.2
      simp only [Nat.beq_refl] at h2
      cases h2
  · have h1 := h.2
    rw [hd] at h1
    intro hm
    simp only [hasN_mem.2 hm] at h1
    cases h1

theorem partsOf_get {loud : List Nat} {made : List (Nat × Nat)} {ps : List (List Nat)} : ∀ {cs : List CO} {i0 i : Nat}, (partsOf loud made ps cs i0)[i]? = (cs[i]?).map fun c => (partOf loud made ps (i0 + i) (partK c.o), c)
  | [], _, _ => by simp [partsOf]
  | c :: cs, i0, 0 => by simp [partsOf]
  | c :: cs, i0, i + 1 => by
    simp only [partsOf, List.getElem?_cons_succ]
    rw [partsOf_get (cs := cs) (i0 := i0 + 1) (i := i), show i0 + 1 + i = i0 + (i + 1) from by omega]

theorem partsOf_length {loud : List Nat} {made : List (Nat × Nat)} {ps : List (List Nat)} : ∀ {cs : List CO} {i0 : Nat}, (partsOf loud made ps cs i0).length = cs.length
  | [], _ => rfl
  | c :: cs, i0 => by simp [partsOf, partsOf_length (cs := cs)]

theorem mem_loudOf {n : Nat} : ∀ {cs : List CO} {i0 : Nat}, n ∈ loudOf cs i0 → ∃ i c, cs[i]? = some c ∧ n = i0 + i ∧ isLoud (partK c.o) = true
  | [], _, h => by cases h
  | c :: cs, i0, h => by
    simp only [loudOf] at h
    cases hb : isLoud (partK c.o) with
    | false =>
      rw [hb] at h
      obtain ⟨i, c', h1, h2, h3⟩ := mem_loudOf (cs := cs) h
      exact ⟨i + 1, c', by simpa using h1, by omega, h3⟩
    | true =>
      rw [hb] at h
      rcases List.mem_cons.1 h with rfl | h
      · exact ⟨0, c, rfl, rfl, hb⟩
      · obtain ⟨i, c', h1, h2, h3⟩ := mem_loudOf (cs := cs) h
        exact ⟨i + 1, c', by simpa using h1, by omega, h3⟩

theorem partOf_loud {loud : List Nat} {made : List (Nat × Nat)} {ps : List (List Nat)} {i : Nat} {k : PK} : (partOf loud made ps i k).isLoud = isLoud k := by cases k <;> rfl

theorem mem_madeOf {n d : Nat} : ∀ {cs : List CO} {i0 i : Nat} {c : CO}, cs[i]? = some c → isMade (partK c.o) = true → c.d = some d → n = i0 + i → (n, d) ∈ madeOf cs i0
  | [], _, _, _, h, _, _, _ => by simp at h
  | c0 :: cs, i0, 0, c, h, hm, hd, hn => by
    simp at h; subst h
    simp only [madeOf, hd, hm, cond_true]
    exact List.mem_cons.2 (.inl (by rw [hn]; rfl))
  | c0 :: cs, i0, i + 1, c, h, hm, hd, hn => by
    have := mem_madeOf (n := n) (d := d) (cs := cs) (i0 := i0 + 1) (i := i) (by simpa using h) hm hd (by omega)
    simp only [madeOf]
    split
    · cases isMade (partK c0.o)
      · exact this
      · exact List.mem_cons_of_mem _ this
    · exact this

theorem mem_hideOf {cs : List CO} {pre : List Nat} {i j d : Nat} {c : CO} (hc : cs[j]? = some c) (hm : isMade (partK c.o) = true) (hd : c.d = some d) (hj : j < i) (hp : j ∉ pre) : d ∈ hideOf (madeOf cs 0) pre i := by
  unfold hideOf
  refine List.mem_map.2 ⟨(j, d), List.mem_filter.2 ⟨mem_madeOf hc hm hd (by omega), ?_⟩, rfl⟩
  rw [Bool.and_eq_true]
  refine ⟨Nat.ble_eq_true_of_le hj, ?_⟩
  cases hb : hasN pre j with
  | false => rfl
  | true => exact absurd (hasN_mem.1 hb) hp

theorem mem_nums {d n : Nat} {tm : TM} (hn : numV (tm.nth d) = some n) : ∀ {l : List Nat}, d ∈ l → n ∈ nums l tm
  | [], h => by cases h
  | x :: l, h => by
    show n ∈ consN (numV (tm.nth x)) (nums l tm)
    rcases List.mem_cons.1 h with rfl | h
    · rw [hn]; exact List.mem_cons_self ..
    · have := mem_nums hn h
      unfold consN
      split
      · exact List.mem_cons_of_mem _ this
      · exact this

theorem hideAll_get : ∀ (ns : List Nat) (h : H) (b : Nat), (hideAll ns h).get b = if b ∈ ns then none else h.get b
  | [], h, b => by simp [hideAll]
  | n :: ns, h, b => by
    show ((hideAll ns h).set n none).get b = _
    rw [H.get_set, hideAll_get ns h b]
    by_cases e : b = n
    · rw [if_pos e, if_pos (by rw [e]; exact List.mem_cons_self ..)]
    · rw [if_neg e]
      by_cases hm : b ∈ ns
      · rw [if_pos hm, if_pos (List.mem_cons_of_mem _ hm)]
      · rw [if_neg hm, if_neg (by intro h; rcases List.mem_cons.1 h with h | h; exact e h; exact hm h)]

theorem backAll_get : ∀ (ns : List Nat) (h0 h : H) (b : Nat), (backAll ns h0 h).get b = if b ∈ ns then h0.get b else h.get b
  | [], h0, h, b => by simp [backAll]
  | n :: ns, h0, h, b => by
    show ((backAll ns h0 h).set n (h0.get n)).get b = _
    rw [H.get_set, backAll_get ns h0 h b]
    by_cases e : b = n
    · rw [if_pos e, if_pos (by rw [e]; exact List.mem_cons_self ..), e]
    · rw [if_neg e]
      by_cases hm : b ∈ ns
      · rw [if_pos hm, if_pos (List.mem_cons_of_mem _ hm)]
      · rw [if_neg hm, if_neg (by intro h; rcases List.mem_cons.1 h with h | h; exact e h; exact hm h)]

theorem louds_get {loud : List Nat} {made : List (Nat × Nat)} {ps : List (List Nat)} : ∀ (cs : List CO) (i0 M : Nat) (S : Nat → St) (val : Nat → V), Row call (partsOf loud made ps cs i0) M S val →
    (M = cs.length ∨ ∃ p, (partsOf loud made ps cs i0)[M]? = some p ∧ stepW' call p (S M) = none) → ∀ p, p ≤ M → (p = M ∨ ∃ c, cs[p]? = some c ∧ isLoud (partK c.o) = true) →
      (louds call (partsOf loud made ps cs i0) (S 0))[((loudOf cs i0).filter fun n => decide (n < i0 + p)).length]? = some (S p).h
  | [], i0, M, S, val, hr, hM, p, hp, hl => by
    have : M = 0 := by
      rcases hM with h | ⟨q, h, _⟩
      · simpa using h
      · simp [partsOf] at h
    subst this
    have : p = 0 := by omega
    subst this
    rfl
  | c :: cs, i0, M, S, val, hr, hM, p, hp, hl => by
    have hnone : ∀ cs' : List CO, ∀ i1, i0 < i1 → ((loudOf cs' i1).filter fun n => decide (n < i0 + 0)) = [] := by
      intro cs' i1 h1
      rw [List.filter_eq_nil_iff]
      intro n hn
      obtain ⟨i, _, _, e, _⟩ := mem_loudOf hn
      simp; omega
    cases M with
    | zero =>
      have : p = 0 := by omega
      subst this
      rcases hM with h | ⟨q, h, hq⟩
      · simp at h
      · have hl0 : louds call (partsOf loud made ps (c :: cs) i0) (S 0) = [(S 0).h] := by
          simp [partsOf] at h
          subst h
          show (match stepW' call _ (S 0) with | some q => _ | none => _) = _
          rw [hq]
        rw [hl0]
        have : ((loudOf (c :: cs) i0).filter fun n => decide (n < i0 + 0)) = [] := by
          rw [List.filter_eq_nil_iff]
          intro n hn
          obtain ⟨i, _, _, e, _⟩ := mem_loudOf hn
          simp; omega
        rw [this]; rfl
    | succ M =>
      obtain ⟨q, h1, h2⟩ := hr.step 0 (by omega)
      simp [partsOf] at h1
      subst h1
      have hrow : Row call (partsOf loud made ps cs (i0 + 1)) M (fun i => S (i + 1)) (fun i => val (i + 1)) := by
        refine ⟨fun i hi => ?_, fun i hi => ?_⟩
        · obtain ⟨q, g1, g2⟩ := hr.step (i + 1) (by omega)
          exact ⟨q, by simpa [partsOf] using g1, g2⟩
        · have := hr.here (i + 1) (by omega)
          have h3 : (stepW' call (partOf loud made ps i0 (partK c.o), c) (S 0)).bind (fun q => canon call (partsOf loud made ps cs (i0 + 1)) q.2 i) = some (S (i + 1)) := this
          rw [h2] at h3
          exact h3
      have hlo : louds call (partsOf loud made ps (c :: cs) i0) (S 0) = cond (isLoud (partK c.o)) ((S 0).h :: louds call (partsOf loud made ps cs (i0 + 1)) (S 1)) (louds call (partsOf loud made ps cs (i0 + 1)) (S 1)) := by
        have := louds_cons (l := partsOf loud made ps cs (i0 + 1)) h2
        rw [partOf_loud] at this
        exact this
      rw [hlo]
      cases p with
      | zero =>
        rcases hl with h | ⟨c', h, hb⟩
        · omega
        · simp at h; subst h
          rw [hb]
          have : ((loudOf (c :: cs) i0).filter fun n => decide (n < i0 + 0)) = [] := by
            rw [List.filter_eq_nil_iff]
            intro n hn
            obtain ⟨i, _, _, e, _⟩ := mem_loudOf hn
            simp; omega
          rw [this]; rfl
      | succ p =>
        have ih := louds_get cs (i0 + 1) M (fun i => S (i + 1)) (fun i => val (i + 1)) hrow (by
          rcases hM with h | ⟨q, h, hq⟩
          · left; simpa using h
          · right; exact ⟨q, by simpa [partsOf] using h, hq⟩) p (by omega) (by
          rcases hl with h | ⟨c', h, hb⟩
          · left; omega
          · right; exact ⟨c', by simpa using h, hb⟩)
        rw [show i0 + 1 + p = i0 + (p + 1) from by omega] at ih
        simp only [loudOf]
        cases hb : isLoud (partK c.o) with
        | false => exact ih
        | true =>
          simp only [cond_true]
          rw [List.filter_cons, if_pos (by simp), List.length_cons, List.getElem?_cons_succ]
          exact ih

end
end A
end Go.Proofs.YtcohlhplpogopaaGreat

namespace Go.Proofs.YtcohlhplpogopaaGreat
namespace A

/-- an object is where the numbers say, or nowhere yet. -/
def Here (σ : Sg) (m w : World) (b : Nat) (o : Obj) : Prop :=
  match o with
  | .cells l => σ b = none ∨ ∃ blk off size, σ b = some (.at blk off size) ∧ Lies σ m w blk off size l
  | .mp es => σ b = none ∨ ∃ blk, σ b = some (.mp blk) ∧ LiesM σ m w blk es

section
variable {σ σ' σ'' : Sg} {m w w' w'' : World} {h h' h1 h2 : H}

theorem WRel.here (hw : WRel σ m h w) {b : Nat} {o : Obj} (hg : h.get b = some o) : Here σ m w b o := by
  cases o with
  | cells l => exact hw.cells b l hg
  | mp es => exact hw.maps b es hg

theorem Here.none {b : Nat} (hn : σ b = none) (o : Obj) : Here σ m w b o := by
  cases o <;> exact .inl hn

theorem Here.move {b : Nat} {o : Obj} (hw : WRel σ m h1 w) (hg : Good σ σ' h h' w w') (hb : h.get b = Option.none) (hn : σ b = Option.none → σ' b = Option.none) (ho : Here σ m w b o) : Here σ' m w' b o := by
  have same : ∀ blk, Tg σ b blk → w'.heap[blk]? = w.heap[blk]? := by
    intro blk ht
    refine hg.frame blk (hw.bound b blk ht).2 ?_
    rintro ⟨b', ht', hne⟩
    rw [hw.inj b' b blk ht' ht] at hne
    exact hne hb
  cases o with
  | cells l =>
    rcases ho with ho | ⟨blk, off, size, hs, hl⟩
    · exact .inl (hn ho)
    · exact .inr ⟨blk, off, size, hg.keep b _ hb hs, hl.ext hg.ext (same blk (.inl ⟨_, _, hs⟩))⟩
  | mp es =>
    rcases ho with ho | ⟨blk, hs, hl⟩
    · exact .inl (hn ho)
    · exact .inr ⟨blk, hg.keep b _ hb hs, hl.ext hg.ext (same blk (.inr hs))⟩

theorem WRel.withNew (hw : WRel σ m h w) {o : Obj} (ho : Here σ m w h.next o) : WRel σ m (h.new o) w := by
  refine ⟨hw.size, hw.old, ?_, ?_, hw.inj, hw.bound, ?_⟩
  · intro b l hg
    rw [H.get_new] at hg
    by_cases e : b = h.next
    · rw [if_pos e] at hg; cases hg; rw [e]; exact ho
    · rw [if_neg e] at hg; exact hw.cells b l hg
  · intro b es hg
    rw [H.get_new] at hg
    by_cases e : b = h.next
    · rw [if_pos e] at hg; cases hg; rw [e]; exact ho
    · rw [if_neg e] at hg; exact hw.maps b es hg
  · intro b hb
    rw [H.next_new] at hb
    rw [H.get_new, if_neg (by omega)]
    exact hw.fresh b (by omega)

theorem get_leaf (n b : Nat) : H.get ⟨n, .leaf⟩ b = none := rfl

theorem WRel.leaf (hw : WRel σ m h w) (n : Nat) : WRel σ m ⟨n, .leaf⟩ w :=
  ⟨hw.size, hw.old, fun b l hg => (by rw [get_leaf] at hg; cases hg), fun b l hg => (by rw [get_leaf] at hg; cases hg), hw.inj, hw.bound, fun _ _ => rfl⟩

theorem WRel.draw (hw : WRel σ m h w) (n : Nat) : WRel σ m h { w with drawn := n } :=
  ⟨hw.size, hw.old, hw.cells, hw.maps, hw.inj, hw.bound, hw.fresh⟩

/-- moves, one after the other, with all numbers up to N set apart. -/
theorem Good.transN {N : Nat} (g : Good σ σ' h ⟨N, h1.t⟩ w w') (g' : Good σ' σ'' h1 h2 w' w'') (h01 : h.next ≤ h1.next) (h2N : h2.next ≤ N) (hf : Free σ h.next N) : Good σ σ'' h ⟨N, h2.t⟩ w w'' := by
  have hle := g'.le
  have ext : Ext σ σ'' h.next N := by
    intro b
    refine ⟨fun t ht => ?_, fun hn hb => ?_⟩
    · rcases (g.ext b).1 t ht with e | ⟨e, hd⟩
      · exact (g'.ext b).1 t e
      · rcases (g'.ext b).1 _ e with e' | ⟨e', _, _, _, hd'⟩
        · exact .inr ⟨e', hd⟩
        · cases hd'
    · exact (g'.ext b).2 ((g.ext b).2 hn hb) (by have hb' : b < h.next ∨ N ≤ b := hb; omega)
  have none1 : ∀ b, h.get b = none → (σ b ≠ none ∨ b < h.next ∨ N ≤ b) → h1.get b = none := by
    intro b hb hx
    refine g.gone b hb ?_
    rcases Nat.lt_or_ge b h.next with c | c
    · exact .inl c
    · rcases Nat.lt_or_ge b N with c' | c'
      · rcases hx with hx | hx | hx
        · exact absurd (hf b c c') hx
        · exact .inl hx
        · exact .inr hx
      · exact .inr c'
  have tgne : ∀ b blk, Tg σ b blk → σ b ≠ none := by
    rintro b blk (⟨o, s, e⟩ | e) hn <;> rw [hn] at e <;> cases e
  have owned : ∀ blk, blk < w.heap.size → ¬ Owned σ h blk → ¬ Owned σ' h1 blk := by
    rintro blk hlt hno ⟨b, ht, hg⟩
    rcases ht.old g.ext with hn | ht'
    · rcases g.new b blk hn ht with hb | ho
      · omega
      · exact hno ho
    · by_cases hb : h.get b = none
      · exact hg (none1 b hb (.inl (tgne b blk ht')))
      · exact hno ⟨b, ht', hb⟩
  refine ⟨by show h.next ≤ N; omega, ext, Nat.le_trans g.size g'.size, ?_, ?_, ?_, ?_, ?_⟩
  · intro blk hlt hno
    rw [g'.frame blk (Nat.lt_of_lt_of_le hlt g.size) (owned blk hlt hno), g.frame blk hlt hno]
  · intro b blk hn ht
    cases hs : σ' b with
    | none =>
      rcases g'.new b blk hs ht with h1 | ⟨b0, ht0, hg0⟩
      · exact .inl (Nat.le_trans g.size h1)
      · rcases Nat.lt_or_ge blk w.heap.size with hlt | hge
        · right
          by_cases hno : Owned σ h blk
          · exact hno
          · exact absurd ⟨b0, ht0, hg0⟩ (owned blk hlt hno)
        · exact .inl hge
    | some t =>
      refine g.new b blk hn ?_
      rcases ht.old g'.ext with e | e
      · rw [hs] at e; cases e
      · exact e
  · intro b hb hx
    have hx' : b < h.next ∨ N ≤ b := hx
    exact g'.gone b (none1 b hb (.inr hx')) (by omega)
  · exact ⟨g'.rest.1.trans g.rest.1, g'.rest.2.1.trans g.rest.2.1, g'.rest.2.2.trans g.rest.2.2⟩
  · intro b t hb ht
    exact g'.keep b t (none1 b hb (.inl (by rw [ht]; intro e; cases e))) (g.keep b t hb ht)

/-- the same move beside another heap. -/
theorem Good.fill {n n' : Nat} {t t0 : T Obj} (g : Good σ σ' ⟨n, .leaf⟩ ⟨n', t⟩ w w') : Good σ σ' ⟨n, t0⟩ ⟨n', t0⟩ w w' :=
  ⟨g.le, g.ext, g.size, fun blk hb _ => g.frame blk hb (by rintro ⟨b, _, hne⟩; exact hne rfl),
    fun b blk hn ht => (g.new b blk hn ht).imp id (by rintro ⟨b, _, hne⟩; exact absurd rfl hne), fun _ hb _ => hb, g.rest, fun b t _ ht => g.keep b t rfl ht⟩

theorem WRel.beside {n : Nat} {o : Obj} (hw : WRel σ m h w) (g : Good σ σ' ⟨n, .leaf⟩ (H.new ⟨n, .leaf⟩ o) w w') (hw' : WRel σ' m (H.new ⟨n, .leaf⟩ o) w') (hn : h.get n = none ∨ h.get n = some o) : WRel σ' m h w' := by
  have hall : ∀ b x, h.get b = some x → Here σ' m w' b x := by
    intro b x hg
    by_cases e : b = n
    · subst e
      rcases hn with hn | hn
      · rw [hn] at hg; cases hg
      · rw [hn] at hg; cases hg
        exact hw'.here (by rw [H.get_new, if_pos rfl])
    · refine Here.move hw g rfl (fun hb => (g.ext b).2 hb ?_) (hw.here hg)
      have : (H.new ⟨n, .leaf⟩ o).next = n + 1 := rfl
      rw [this]
      show b < n ∨ n + 1 ≤ b
      omega
  refine ⟨Nat.le_trans hw.size g.size, ?_, fun b l hg => hall b _ hg, fun b l hg => hall b _ hg, hw'.inj, hw'.bound, hw.fresh⟩
  intro i hi
  rw [g.frame i (Nat.lt_of_lt_of_le hi hw.size) (by rintro ⟨b, _, hne⟩; exact hne rfl)]
  exact hw.old i hi

/- objects that are not there during a step, and are there again -/
theorem WRel.hide (hw : WRel σ m h w) (ns : List Nat) : WRel σ m (hideAll ns h) w := by
  have key : ∀ b o, (hideAll ns h).get b = some o → h.get b = some o := by
    intro b o hg
    rw [hideAll_get] at hg
    by_cases e : b ∈ ns
    · rw [if_pos e] at hg; cases hg
    · rw [if_neg e] at hg; exact hg
  refine ⟨hw.size, hw.old, fun b l hg => hw.cells b l (key b _ hg), fun b l hg => hw.maps b l (key b _ hg), hw.inj, hw.bound, fun b hb => ?_⟩
  rw [hideAll_next] at hb
  rw [hideAll_get]
  by_cases e : b ∈ ns
  · rw [if_pos e]
  · rw [if_neg e]; exact hw.fresh b hb

theorem WRel.back {ns : List Nat} (hw : WRel σ m h w) (hg : Good σ σ' (hideAll ns h) h' w w') (hw' : WRel σ' m h' w') : WRel σ' m (backAll ns h h') w' := by
  have hle : h.next ≤ h'.next := by have := hg.le; rwa [hideAll_next] at this
  have key : ∀ b o, (backAll ns h h').get b = some o → Here σ' m w' b o := by
    intro b o hb
    rw [backAll_get] at hb
    by_cases e : b ∈ ns
    · rw [if_pos e] at hb
      have hlt : b < h.next := by
        rcases Nat.lt_or_ge b h.next with c | c
        · exact c
        · rw [hw.fresh b c] at hb; cases hb
      exact Here.move hw hg (by rw [hideAll_get, if_pos e]) (fun hn => (hg.ext b).2 hn (.inl (by rw [hideAll_next]; exact hlt))) (hw.here hb)
    · rw [if_neg e] at hb; exact hw'.here hb
  refine ⟨hw'.size, hw'.old, fun b l hb => key b _ hb, fun b l hb => key b _ hb, hw'.inj, hw'.bound, fun b hb => ?_⟩
  rw [backAll_next] at hb
  rw [backAll_get]
  by_cases e : b ∈ ns
  · rw [if_pos e]; exact hw.fresh b (by omega)
  · rw [if_neg e]; exact hw'.fresh b hb

theorem Good.back {ns : List Nat} (hg : Good σ σ' (hideAll ns h) h' w w') : Good σ σ' h (backAll ns h h') w w' := by
  have hn := hideAll_next ns h
  have own : ∀ blk, Owned σ (hideAll ns h) blk → Owned σ h blk := by
    rintro blk ⟨b, h1, h2⟩
    refine ⟨b, h1, fun e => h2 ?_⟩
    rw [hideAll_get, e]; split <;> rfl
  refine ⟨?_, ?_, hg.size, fun blk h1 h2 => hg.frame blk h1 fun h3 => h2 (own blk h3), fun b blk h1 h2 => (hg.new b blk h1 h2).imp id (own blk), ?_, hg.rest, fun b t h1 h2 => hg.keep b t (by rw [hideAll_get, h1]; split <;> rfl) h2⟩
  · rw [backAll_next, ← hn]; exact hg.le
  · rw [backAll_next, ← hn]; exact hg.ext
  · intro b hb hx
    rw [backAll_next, ← hn] at hx
    rw [backAll_get]
    by_cases e : b ∈ ns
    · rw [if_pos e]; exact hb
    · rw [if_neg e]; exact hg.gone b (by rw [hideAll_get, hb]; split <;> rfl) hx

theorem Good.hid {N : Nat} (ns : List Nat) (g : Good σ σ' h ⟨N, h1.t⟩ w w') : Good σ σ' h ⟨N, (hideAll ns h1).t⟩ w w' := by
  refine ⟨g.le, g.ext, g.size, g.frame, g.new, fun b hb hx => ?_, g.rest, g.keep⟩
  show (hideAll ns h1).get b = none
  rw [hideAll_get]
  by_cases e : b ∈ ns
  · rw [if_pos e]
  · rw [if_neg e]; exact g.gone b hb hx

/- temporaries -/
theorem setD_nth (d : Option Nat) (v : V) (tm : TM) (n : Nat) : (setD d v tm).nth n = if d = some n then v else tm.nth n := by
  cases d with
  | none => simp [setD]
  | some d =>
    show (tm.put d v).nth n = _
    rw [T.nth_put]
    by_cases e : n = d
    · rw [if_pos e, if_pos (by rw [e])]
    · rw [if_neg e, if_neg (by intro h; cases h; exact e rfl)]

def dstOf (cs : List CO) (i : Nat) : Option Nat := (cs[i]?).bind (·.d)

/-- the temporaries when some of the first operations are done. -/
noncomputable def tmT (cs : List CO) (val : Nat → V) (tm0 : TM) (D : Nat → Bool) : Nat → TM
  | 0 => tm0
  | i + 1 => cond (D i) (setD (dstOf cs i) (val i) (tmT cs val tm0 D i)) (tmT cs val tm0 D i)

variable {cs : List CO} {val : Nat → V} {tm0 : TM} {D D' : Nat → Bool}

theorem tmT_succ (i n : Nat) : (tmT cs val tm0 D (i + 1)).nth n = if D i = true ∧ dstOf cs i = some n then val i else (tmT cs val tm0 D i).nth n := by
  show (cond (D i) _ _ : TM).nth n = _
  cases hD : D i with
  | false => simp
  | true => simp only [cond_true, setD_nth, true_and]

theorem tmT_congr : ∀ (M : Nat), (∀ i, i < M → D i = D' i) → tmT cs val tm0 D M = tmT cs val tm0 D' M
  | 0, _ => rfl
  | M + 1, h => by
    show cond (D M) _ _ = cond (D' M) _ _
    rw [h M (by omega), tmT_congr M fun i hi => h i (by omega)]

theorem tmT_none {n : Nat} : ∀ (M : Nat), (∀ i, i < M → D i = true → dstOf cs i ≠ some n) → (tmT cs val tm0 D M).nth n = tm0.nth n
  | 0, _ => rfl
  | M + 1, h => by
    rw [tmT_succ, if_neg (fun e => h M (by omega) e.1 e.2)]
    exact tmT_none M fun i hi => h i (by omega)

theorem tmT_agree {n : Nat} : ∀ (M j : Nat), j ≤ M → (∀ i, i < M → dstOf cs i = some n → D i = decide (i < j)) → (tmT cs val tm0 D M).nth n = (tmT cs val tm0 (fun _ => true) j).nth n
  | 0, j, hj, _ => by rw [Nat.le_zero.1 hj]; rfl
  | M + 1, j, hj, h => by
    rw [tmT_succ]
    by_cases hd : dstOf cs M = some n
    · have hM := h M (by omega) hd
      by_cases e : j = M + 1
      · subst e
        rw [if_pos ⟨by rw [hM]; simp, hd⟩, tmT_succ, if_pos ⟨rfl, hd⟩]
      · rw [if_neg (fun e' => by rw [hM] at e'; have := e'.1; simp at this; omega)]
        exact tmT_agree M j (by omega) fun i hi => h i (by omega)
    · rw [if_neg (fun e => hd e.2)]
      by_cases e : j = M + 1
      · subst e
        rw [tmT_succ, if_neg (fun e => hd e.2)]
        refine tmT_agree M M (Nat.le_refl _) fun i hi hdi => ?_
        rw [h i (by omega) hdi]; simp; omega
      · exact tmT_agree M j (by omega) fun i hi => h i (by omega)

theorem tmT_put {j : Nat} (hj : D j = false) (hD : ∀ i, D' i = (D i || i == j)) {n : Nat} : ∀ (M : Nat), j < M → (∀ i, j < i → i < M → D i = true → dstOf cs j = some n → dstOf cs i ≠ some n) →
    (tmT cs val tm0 D' M).nth n = (setD (dstOf cs j) (val j) (tmT cs val tm0 D M)).nth n
  | 0, h, _ => by omega
  | M + 1, hjM, h => by
    rw [setD_nth, tmT_succ, tmT_succ]
    by_cases e : j = M
    · subst e
      have h1 : D' j = true := by rw [hD]; simp
      have hc : ∀ i, i < j → D' i = D i := by
        intro i hi
        have : (i == j) = false := by simp; omega
        rw [hD, this, Bool.or_false]
      rw [tmT_congr (D := D') (D' := D) j hc]
      simp only [h1, hj, true_and, Bool.false_eq_true, false_and, if_false]
    · have h1 : D' M = D M := by
        have : (M == j) = false := by simp; omega
        rw [hD, this, Bool.or_false]
      have ih := tmT_put hj hD M (n := n) (by omega) fun i h1 h2 => h i h1 (by omega)
      rw [setD_nth] at ih
      rw [h1, ih]
      by_cases hM : D M = true ∧ dstOf cs M = some n
      · rw [if_pos hM, if_pos hM]
        by_cases hd : dstOf cs j = some n
        · exact absurd hM.2 (h M (by omega) (by omega) hM.1 hd)
        · rw [if_neg hd]
      · rw [if_neg hM, if_neg hM]

theorem TRel.congr {tm tm' : TM} {tmps : Array Value} (h : TRel σ m tm tmps) (he : ∀ n, tm'.nth n = tm.nth n) : TRel σ m tm' tmps := fun n => by rw [he n]; exact h n

theorem forget_nth (n : Nat) : ∀ (l : List (Part × CO)) (tm : TM), (forget l tm).nth n = .any ∨ ((forget l tm).nth n = tm.nth n ∧ ∀ p, p ∈ l → p.2.d ≠ some n)
  | [], tm => .inr ⟨rfl, fun p hp => by cases hp⟩
  | p :: l, tm => by
    have e : forget (p :: l) tm = forget l (setD p.2.d .any tm) := rfl
    rw [e]
    rcases forget_nth n l (setD p.2.d .any tm) with h | ⟨h1, h2⟩
    · exact .inl h
    · rw [setD_nth] at h1
      by_cases hd : p.2.d = some n
      · rw [if_pos hd] at h1; exact .inl h1
      · rw [if_neg hd] at h1
        refine .inr ⟨h1, fun q hq => ?_⟩
        rcases List.mem_cons.1 hq with rfl | hq
        · exact hd
        · exact h2 q hq

end
end A
end Go.Proofs.YtcohlhplpogopaaGreat

namespace Go.Proofs.YtcohlhplpogopaaGreat
namespace A

/-- how many loud operations are ahead of one. -/
def nl (cs : List CO) (p : Nat) : Nat := ((loudOf cs 0).filter fun n => decide (n < 0 + p)).length

structure Ctx (P : Program) (nt : Nat) (call : Callee) (ops : Array Oper) (cs : List CO) (M : Nat) (S : Nat → St) (val : Nat → V) : Prop where
  comp : compOps P nt ops.toList ops.toList = some cs
  edges : edgesOk ops.toList 0 = true
  all : allOk (pres ops.toList) cs 0 = true
  row : Row call (partsOf (loudOf cs 0) (madeOf cs 0) (pres ops.toList) cs 0) M S val
  le : M ≤ cs.length
  mono : Mono call
  read : ∀ j c p, j < M → cs[j]? = some c → partK c.o = .read → wanted c.g (S j).tm = some true → p ≤ M → (p = M ∨ ∃ c', cs[p]? = some c' ∧ isLoud (partK c'.o) = true) →
    loBelow (loudOf cs 0) ((pres ops.toList).getD j []) ≤ nl cs p → nl cs p ≤ hiBelow (loudOf cs 0) (pres ops.toList) j → ∃ h', stepO c.o (S j).tm (S p).h = some (val j, h')

section
variable {P : Program} {nt : Nat} {call : Callee} {ops : Array Oper} {cs : List CO} {M : Nat} {S : Nat → St} {val : Nat → V}

theorem compOps_get {nt : Nat} {os : List Oper} : ∀ {l : List Oper} {cs : List CO}, compOps P nt os l = some cs → l.length = cs.length ∧ ∀ (i : Nat) (o : Oper), l[i]? = some o → ∃ c, cs[i]? = some c ∧ compCO P nt os o = some c
  | [], cs, h => by cases h; exact ⟨rfl, fun i o h => by simp at h⟩
  | x :: l, cs, h => by
    obtain ⟨c, k, h1, h2, rfl⟩ := consC_some (show consC (compCO P nt os x) (compOps P nt os l) = some cs from h)
    obtain ⟨h3, h4⟩ := compOps_get h2
    refine ⟨by simp [h3], fun i o hi => ?_⟩
    cases i with
    | zero => simp at hi; subst hi; exact ⟨c, rfl, h1⟩
    | succ i => exact h4 i o (by simpa using hi)

theorem Ctx.size (C : Ctx P nt call ops cs M S val) : ops.size = cs.length := by
  have := (compOps_get C.comp).1
  simpa using this

theorem Ctx.get (C : Ctx P nt call ops cs M S val) {i : Nat} {o : Oper} (h : ops[i]? = some o) : ∃ c, cs[i]? = some c ∧ compCO P nt ops.toList o = some c :=
  (compOps_get C.comp).2 i o (by simpa using h)

theorem Ctx.eff (C : Ctx P nt call ops cs M S val) {i : Nat} (hi : i < M) : ∃ c, cs[i]? = some c ∧ (S (i + 1)).tm = setD c.d (val i) (S i).tm ∧ Eff call (hideOf (madeOf cs 0) ((pres ops.toList).getD i []) i) c (S i) (val i) (S (i + 1)) := by
  obtain ⟨p, h1, h2⟩ := C.row.step i hi
  rw [partsOf_get] at h1
  cases hc : cs[i]? with
  | none => rw [hc] at h1; cases h1
  | some c =>
    rw [hc] at h1
    simp only [Option.map_some, Option.some.injEq] at h1
    subst h1
    rw [Nat.zero_add] at h2
    exact ⟨c, rfl, stepW'_eff h2⟩

theorem Ctx.tm (C : Ctx P nt call ops cs M S val) : ∀ i, i ≤ M → (S i).tm = tmT cs val (S 0).tm (fun _ => true) i
  | 0, _ => rfl
  | i + 1, h => by
    obtain ⟨c, h1, h2, _⟩ := C.eff (i := i) (by omega)
    rw [h2, C.tm i (by omega)]
    show _ = setD (dstOf cs i) (val i) _
    simp [dstOf, h1]

theorem Ctx.next (C : Ctx P nt call ops cs M S val) {i : Nat} : ∀ {j : Nat}, i ≤ j → j ≤ M → (S i).h.next ≤ (S j).h.next
  | 0, h, _ => by rw [Nat.le_zero.1 h]; exact Nat.le_refl _
  | j + 1, h, hM => by
    by_cases e : i = j + 1
    · rw [e]; exact Nat.le_refl _
    · obtain ⟨c, _, _, h3⟩ := C.eff (i := j) (by omega)
      exact Nat.le_trans (C.next (j := j) (by omega) (by omega)) (h3.next C.mono)

theorem Ctx.pair (C : Ctx P nt call ops cs M S val) {i j : Nat} {a b : CO} (hij : i < j) (ha : cs[i]? = some a) (hb : cs[j]? = some b) :
    i ∈ (pres ops.toList).getD j [] ∨ (clash a b = false ∧ (isLoud (partK a.o) = true → isLoud (partK b.o) = true → False) ∧ (isMade (partK a.o) = true → isLoud (partK b.o) = true → a.d ≠ none)) := by
  have h := allOk_get C.all i j a b hij ha hb
  rw [Nat.zero_add, Nat.zero_add] at h
  unfold pairOk at h
  rw [Bool.and_eq_true, Bool.or_eq_true] at h
  rcases h.2 with h | h
  · exact .inl (hasN_mem.1 h)
  · right
    rw [Bool.and_eq_true, Bool.and_eq_true] at h
    refine ⟨by simpa using h.1, fun h1 h2 => ?_, fun h1 h2 hd => ?_⟩
    · have := h.2.1; rw [h1, h2] at this; cases this
    · have := h.2.2; rw [h1, h2, hd] at this; cases this

theorem Ctx.other (C : Ctx P nt call ops cs M S val) {i j : Nat} {a b : CO} (hij : i < j) (ha : cs[i]? = some a) (hb : cs[j]? = some b) (hm : isMade (partK a.o) = true) {d : Nat} (hd : a.d = some d) : b.d ≠ some d := by
  have h := allOk_get C.all i j a b hij ha hb
  rw [Nat.zero_add, Nat.zero_add] at h
  unfold pairOk at h
  rw [Bool.and_eq_true] at h
  intro hbd
  have := h.1
  rw [hm, hd, hbd] at this
  simp only [sameD, Nat.beq_refl, Bool.and_self, Bool.not_true] at this
  cases this

/-- an operation that is not loud leaves the heap, or makes one object. -/
theorem Ctx.calm (C : Ctx P nt call ops cs M S val) {i : Nat} (hi : i < M) (hl : ∀ c, cs[i]? = some c → isLoud (partK c.o) = false) :
    (S (i + 1)).df = (S i).df ∧ ((S (i + 1)).h = (S i).h ∨ ∃ c o, cs[i]? = some c ∧ partK c.o = .made ∧ (S (i + 1)).h = (S i).h.new o) := by
  obtain ⟨c, h1, _, h3⟩ := C.eff hi
  cases h3 with
  | off _ _ a b => exact ⟨a, .inl b⟩
  | still _ _ _ a b => exact ⟨a, .inl b⟩
  | made _ hp mk x _ _ _ a b => exact ⟨a, .inr ⟨c, x, h1, hp, b⟩⟩
  | loud _ hp _ _ _ => have := hl c h1; rw [hp] at this; cases this

theorem Ctx.climb (C : Ctx P nt call ops cs M S val) {σ0 σ : Sg} {m w0 w : World} {h0 : H} {N q : Nat} (hW : WRel σ m (S q).h w) (hG : Good σ0 σ h0 ⟨N, (S q).h.t⟩ w0 w) (h0q : h0.next ≤ (S q).h.next) (hN : (S M).h.next ≤ N) :
    ∀ p, q ≤ p → p ≤ M → (∀ i c, q ≤ i → i < p → cs[i]? = some c → isLoud (partK c.o) = false) →
      (∀ i c o, q ≤ i → i < p → cs[i]? = some c → partK c.o = .made → (S (i + 1)).h = (S i).h.new o → Here σ m w (S i).h.next o) →
      WRel σ m (S p).h w ∧ (S p).df = (S q).df ∧ Good σ0 σ h0 ⟨N, (S p).h.t⟩ w0 w
  | 0, h1, _, _, _ => by
    rw [Nat.le_zero.1 h1] at hW hG ⊢
    exact ⟨hW, rfl, hG⟩
  | p + 1, h1, h2, h3, h4 => by
    by_cases e : q = p + 1
    · subst e; exact ⟨hW, rfl, hG⟩
    · obtain ⟨g1, g2, g3⟩ := C.climb hW hG h0q hN p (by omega) (by omega) (fun i c a b => h3 i c a (by omega)) (fun i c o a b => h4 i c o a (by omega))
      obtain ⟨hd, hh⟩ := C.calm (i := p) (by omega) (fun c hc => h3 p c (by omega) (by omega) hc)
      rcases hh with hh | ⟨c, o, hc, hk, hh⟩
      · rw [hh, hd]; exact ⟨g1, g2, g3⟩
      · have hH := h4 p c o (by omega) (by omega) hc hk hh
        have hnx : (S (p + 1)).h.next ≤ (S M).h.next := C.next h2 (Nat.le_refl _)
        have hq : (S q).h.next ≤ (S p).h.next := C.next (by omega) (by omega)
        rw [hd, hh] at *
        refine ⟨g1.withNew hH, g2, ⟨g3.le, g3.ext, g3.size, g3.frame, g3.new, ?_, g3.rest, g3.keep⟩⟩
        intro b hb hx
        have hx' : b < h0.next ∨ N ≤ b := hx
        show ((S p).h.new o).get b = none
        rw [H.next_new] at hnx
        rw [H.get_new, if_neg (by omega)]
        exact g3.gone b hb hx

/-- the next loud operation, or the end. -/
theorem nextLoud (cs : List CO) : ∀ (n q M : Nat), q + n = M → ∃ p, q ≤ p ∧ p ≤ M ∧ (p = M ∨ ∃ c, cs[p]? = some c ∧ isLoud (partK c.o) = true) ∧ ∀ i c, q ≤ i → i < p → cs[i]? = some c → isLoud (partK c.o) = false
  | 0, q, M, h => ⟨q, Nat.le_refl _, by omega, .inl (by omega), fun i c h1 h2 => by omega⟩
  | n + 1, q, M, h => by
    by_cases hl : ∃ c, cs[q]? = some c ∧ isLoud (partK c.o) = true
    · exact ⟨q, Nat.le_refl _, by omega, .inr hl, fun i c h1 h2 => by omega⟩
    · obtain ⟨p, h1, h2, h3, h4⟩ := nextLoud cs n (q + 1) M (by omega)
      refine ⟨p, by omega, h2, h3, fun i c g1 g2 hc => ?_⟩
      by_cases e : i = q
      · subst e
        cases hb : isLoud (partK c.o) with
        | false => rfl
        | true => exact absurd ⟨c, hc, hb⟩ hl
      · exact h4 i c (by omega) g2 hc

/-- what holds when the operations D are done; p: the first loud one that is not. -/
structure Inv (P : Program) (nt : Nat) (ops : Array Oper) (cs : List CO) (M : Nat) (S : Nat → St) (val : Nat → V) (σ0 : Sg) (m w0 : World) (N : Nat) (D : Nat → Bool) (a : Go.Act) (w : World) (σ : Sg) (p : Nat) : Prop where
  lt : ∀ i, D i = true → i < M
  closed : ∀ j k, D j = true → k ∈ (pres ops.toList).getD j [] → D k = true
  pM : p ≤ M
  pl : p = M ∨ ∃ c, cs[p]? = some c ∧ isLoud (partK c.o) = true
  pD : D p = false
  below : ∀ i c, i < p → cs[i]? = some c → isLoud (partK c.o) = true → D i = true
  st : StRel σ m nt ⟨tmT cs val (S 0).tm D M, (S p).df, (S p).h⟩ a w
  early : ∀ i c o, p ≤ i → i < M → cs[i]? = some c → partK c.o = .made → D i = true → (S (i + 1)).h = (S i).h.new o → Here σ m w (S i).h.next o
  free : ∀ i, i < M → D i = false → ∀ b, (S i).h.next ≤ b → b < (S (i + 1)).h.next → σ b = none
  freeN : ∀ b, (S M).h.next ≤ b → b < N → σ b = none
  good : Good σ0 σ (S 0).h ⟨N, (S p).h.t⟩ w0 w

section
variable {σ0 σ σ' : Sg} {m w0 w w' : World} {N p j : Nat} {D : Nat → Bool} {a a' : Go.Act}

theorem Inv.agree (C : Ctx P nt call ops cs M S val) (I : Inv P nt ops cs M S val σ0 m w0 N D a w σ p) (hjM : j ≤ M) (hj : D j = false) (hr : ∀ k, k ∈ (pres ops.toList).getD j [] → D k = true) {c : CO} (hc : cs[j]? = some c) :
    Agree (uses c) (S j).tm (tmT cs val (S 0).tm D M) := by
  intro n hn
  rw [C.tm j hjM]
  refine (tmT_agree M j hjM fun i hi hd => ?_).symm
  cases hci : cs[i]? with
  | none => simp [dstOf, hci] at hd
  | some ci =>
    have hd' : ci.d = some n := by simpa [dstOf, hci] using hd
    rcases Nat.lt_trichotomy i j with h | h | h
    · rcases C.pair h hci hc with h1 | ⟨h1, _⟩
      · rw [hr i h1]; simp [h]
      · exact absurd hn ((clash_false h1).1 n hd').1
    · subst h; rw [hj]; simp
    · cases hD : D i with
      | false => simp; omega
      | true =>
        rcases C.pair h hc hci with h1 | ⟨h1, _⟩
        · rw [I.closed i j hD h1] at hj; cases hj
        · exact absurd hn ((clash_false h1).2 n hd')

theorem Inv.tm' (C : Ctx P nt call ops cs M S val) (I : Inv P nt ops cs M S val σ0 m w0 N D a w σ p) (hjM : j < M) (hj : D j = false) {n : Nat} :
    (tmT cs val (S 0).tm (fun i => D i || i == j) M).nth n = (setD (dstOf cs j) (val j) (tmT cs val (S 0).tm D M)).nth n := by
  refine tmT_put hj (fun i => rfl) M hjM fun i h1 h2 h3 h4 h5 => ?_
  cases hc : cs[j]? with
  | none => simp [dstOf, hc] at h4
  | some c =>
    cases hci : cs[i]? with
    | none => simp [dstOf, hci] at h5
    | some ci =>
      rcases C.pair h1 hc hci with g1 | ⟨g1, _⟩
      · rw [I.closed i j h3 g1] at hj; cases hj
      · exact ((clash_false g1).1 n (by simpa [dstOf, hc] using h4)).2 (by simpa [dstOf, hci] using h5)

/-- a loud operation that may be done is the first one that is not. -/
theorem Inv.first (C : Ctx P nt call ops cs M S val) (I : Inv P nt ops cs M S val σ0 m w0 N D a w σ p) (hjM : j ≤ M) (hj : D j = false) (hr : ∀ k, k ∈ (pres ops.toList).getD j [] → D k = true) {c : CO} (hc : cs[j]? = some c) (hl : isLoud (partK c.o) = true) : j = p := by
  rcases Nat.lt_trichotomy j p with h | h | h
  · rw [I.below j c h hc hl] at hj; cases hj
  · exact h
  · rcases I.pl with e | ⟨c', h1, h2⟩
    · omega
    · rcases C.pair h h1 hc with g | ⟨_, g, _⟩
      · have := hr p g; rw [I.pD] at this; cases this
      · exact (g h2 hl).elim

theorem Inv.closed' (I : Inv P nt ops cs M S val σ0 m w0 N D a w σ p) (hr : ∀ k, k ∈ (pres ops.toList).getD j [] → D k = true) : ∀ i k, (D i || i == j) = true → k ∈ (pres ops.toList).getD i [] → (D k || k == j) = true := by
  intro i k hi hk
  rw [Bool.or_eq_true] at hi ⊢
  rcases hi with hi | hi
  · exact .inl (I.closed i k hi hk)
  · rw [beq_iff_eq] at hi; subst hi; exact .inl (hr k hk)

theorem Inv.early' (C : Ctx P nt call ops cs M S val) (I : Inv P nt ops cs M S val σ0 m w0 N D a w σ p) {h' : H} (hg : Good σ σ' (S p).h h' w w') {i : Nat} {c : CO} {o : Obj} (h1 : p ≤ i) (h2 : i < M) (hc : cs[i]? = some c) (hk : partK c.o = .made) (hD : D i = true)
    (hh : (S (i + 1)).h = (S i).h.new o) (hx : h'.next ≤ (S i).h.next) : Here σ' m w' (S i).h.next o := by
  refine Here.move I.st.w hg (I.st.w.fresh _ (C.next h1 (by omega))) (fun hb => (hg.ext _).2 hb (.inr hx)) (I.early i c o h1 h2 hc hk hD hh)

/-- the first loud operation is done. -/
theorem Inv.advance (C : Ctx P nt call ops cs M S val) (hN : (S M).h.next ≤ N) (hf0 : Free σ0 (S 0).h.next N) (I : Inv P nt ops cs M S val σ0 m w0 N D a w σ p) (hp : p < M) (hr : ∀ k, k ∈ (pres ops.toList).getD p [] → D k = true)
    (hst : StRel σ' m nt ⟨setD (dstOf cs p) (val p) (tmT cs val (S 0).tm D M), (S (p + 1)).df, (S (p + 1)).h⟩ a' w') (hg : Good σ σ' (S p).h (S (p + 1)).h w w') :
    ∃ p', Inv P nt ops cs M S val σ0 m w0 N (fun i => D i || i == p) a' w' σ' p' := by
  obtain ⟨c, hc, hl⟩ : ∃ c, cs[p]? = some c ∧ isLoud (partK c.o) = true := I.pl.resolve_left (by omega)
  obtain ⟨p', g1, g2, g3, g4⟩ := nextLoud cs (M - (p + 1)) (p + 1) M (by omega)
  have hnp : ∀ i, p < i → D i = true → ∀ ci, cs[i]? = some ci → isLoud (partK ci.o) = true → False := by
    intro i hi hD ci hci hli
    rcases C.pair hi hc hci with g | ⟨_, g, _⟩
    · have := I.closed i p hD g; rw [I.pD] at this; cases this
    · exact g hl hli
  have hfree : ∀ i, i < M → (D i || i == p) = false → ∀ b, (S i).h.next ≤ b → b < (S (i + 1)).h.next → σ' b = none := by
    intro i hi hD b hb1 hb2
    rw [Bool.or_eq_false_iff] at hD
    have hne : i ≠ p := by simpa using hD.2
    refine (hg.ext b).2 (I.free i hi hD.1 b hb1 hb2) ?_
    rcases Nat.lt_or_ge i p with h | h
    · left; exact Nat.lt_of_lt_of_le hb2 (C.next (by omega) (by omega))
    · right; exact Nat.le_trans (C.next (i := p + 1) (by omega) (by omega)) hb1
  have hp1 : (S (p + 1)).h.next ≤ (S M).h.next := C.next (by omega) (Nat.le_refl _)
  have h0p : (S 0).h.next ≤ (S p).h.next := C.next (Nat.zero_le _) (by omega)
  have hgood : Good σ0 σ' (S 0).h ⟨N, (S (p + 1)).h.t⟩ w0 w' := I.good.transN hg h0p (Nat.le_trans hp1 hN) hf0
  have hpp : (S p).h.next ≤ (S (p + 1)).h.next := C.next (by omega) (by omega)
  obtain ⟨k1, k2, k3⟩ := C.climb hst.w hgood (Nat.le_trans h0p hpp) hN p' g1 g2 g4 (by
    intro i ci o h1 h2 hci hk hh
    cases hD : D i with
    | true => exact I.early' C hg (by omega) (by omega) hci hk hD hh (C.next h1 (by omega))
    | false =>
      refine Here.none (hfree i (by omega) (by rw [hD]; simp; omega) _ (Nat.le_refl _) ?_) o
      rw [hh, H.next_new]; omega)
  refine ⟨p', ?_, I.closed' hr, g2, g3, ?_, ?_, ⟨?_, ?_, k1, hst.n⟩, ?_, hfree, ?_, k3⟩
  · intro i hi
    rw [Bool.or_eq_true] at hi
    rcases hi with hi | hi
    · exact I.lt i hi
    · rw [beq_iff_eq] at hi; omega
  · rw [Bool.or_eq_false_iff]
    refine ⟨?_, by simp; omega⟩
    cases hD : D p' with
    | false => rfl
    | true =>
      rcases g3 with g3 | ⟨c', g3, g3'⟩
      · have := I.lt p' hD; omega
      · exact (hnp p' (by omega) hD c' g3 g3').elim
  · intro i ci hi hci hli
    rw [Bool.or_eq_true]
    rcases Nat.lt_trichotomy i p with h | h | h
    · exact .inl (I.below i ci h hci hli)
    · exact .inr (by simp [h])
    · have := g4 i ci (by omega) hi hci; rw [hli] at this; cases this
  · exact TRel.congr hst.t fun n => I.tm' C hp I.pD
  · show DRel σ' m (S p').df a'.defers
    rw [k2]; exact hst.d
  · intro i ci o h1 h2 hci hk hD hh
    rw [Bool.or_eq_true] at hD
    rcases hD with hD | hD
    · exact I.early' C hg (by omega) h2 hci hk hD hh (C.next (by omega) (by omega))
    · rw [beq_iff_eq] at hD; omega
  · intro b h1 h2
    exact (hg.ext b).2 (I.freeN b h1 h2) (.inr (Nat.le_trans hp1 h1))

/-- an operation that leaves the heap is done. -/
theorem Inv.stay (C : Ctx P nt call ops cs M S val) (hN : (S M).h.next ≤ N) (hf0 : Free σ0 (S 0).h.next N) (I : Inv P nt ops cs M S val σ0 m w0 N D a w σ p) (hjM : j < M) (hj : D j = false) (hr : ∀ k, k ∈ (pres ops.toList).getD j [] → D k = true)
    {c : CO} (hc : cs[j]? = some c) (hl : isLoud (partK c.o) = false) (hh : (S (j + 1)).h = (S j).h)
    (hst : StRel σ' m nt ⟨setD (dstOf cs j) (val j) (tmT cs val (S 0).tm D M), (S p).df, (S p).h⟩ a' w') (hg : Good σ σ' (S p).h (S p).h w w') :
    Inv P nt ops cs M S val σ0 m w0 N (fun i => D i || i == j) a' w' σ' p := by
  have hpM : (S p).h.next ≤ (S M).h.next := C.next I.pM (Nat.le_refl _)
  have hne : ∀ b, σ b = none → σ' b = none := fun b hb => (hg.ext b).2 hb (by omega)
  have hpj : p ≠ j := by
    rintro rfl
    rcases I.pl with e | ⟨c', h1, h2⟩
    · omega
    · rw [hc] at h1; cases h1; rw [hl] at h2; cases h2
  refine ⟨?_, I.closed' hr, I.pM, I.pl, ?_, ?_, ⟨?_, hst.d, hst.w, hst.n⟩, ?_, ?_, ?_, ?_⟩
  · intro i hi
    rw [Bool.or_eq_true] at hi
    rcases hi with hi | hi
    · exact I.lt i hi
    · rw [beq_iff_eq] at hi; omega
  · rw [Bool.or_eq_false_iff]; exact ⟨I.pD, by simpa using hpj⟩
  · intro i ci hi hci hli
    rw [Bool.or_eq_true]; exact .inl (I.below i ci hi hci hli)
  · exact TRel.congr hst.t fun n => I.tm' C hjM hj
  · intro i ci o h1 h2 hci hk hD hh'
    rw [Bool.or_eq_true] at hD
    rcases hD with hD | hD
    · exact I.early' C hg h1 h2 hci hk hD hh' (C.next h1 (by omega))
    · rw [beq_iff_eq] at hD; subst hD
      have hnx : (S (i + 1)).h.next = (S i).h.next + 1 := by rw [hh', H.next_new]
      rw [hh] at hnx; omega
  · intro i hi hD b h1 h2
    rw [Bool.or_eq_false_iff] at hD
    exact hne b (I.free i hi hD.1 b h1 h2)
  · exact fun b h1 h2 => hne b (I.freeN b h1 h2)
  · exact I.good.transN hg (C.next (Nat.zero_le _) I.pM) (Nat.le_trans hpM hN) hf0

theorem Ctx.kept (C : Ctx P nt call ops cs M S val) {j d : Nat} {c : CO} (hc : cs[j]? = some c) (hm : isMade (partK c.o) = true) (hd : c.d = some d) : ∀ q, j < q → q ≤ M → (S q).tm.nth d = val j
  | 0, h, _ => absurd h (Nat.not_lt_zero _)
  | q + 1, h, hq => by
    obtain ⟨cq, h1, h2, _⟩ := C.eff (i := q) (by omega)
    rw [h2, setD_nth]
    by_cases e : q = j
    · subst e
      rw [hc] at h1; cases h1
      rw [if_pos hd]
    · rw [if_neg (C.other (i := j) (j := q) (by omega) hc h1 hm hd)]
      exact C.kept hc hm hd q (by omega) (by omega)

/-- an operation that makes an object is done. -/
theorem Inv.make (C : Ctx P nt call ops cs M S val) (hN : (S M).h.next ≤ N) (hf0 : Free σ0 (S 0).h.next N) (I : Inv P nt ops cs M S val σ0 m w0 N D a w σ p) (hjM : j < M) (hj : D j = false) (hr : ∀ k, k ∈ (pres ops.toList).getD j [] → D k = true)
    {c : CO} (hc : cs[j]? = some c) (hk : partK c.o = .made) {o : Obj} (hnum : numV (val j) = some (S j).h.next) (hh : (S (j + 1)).h = (S j).h.new o)
    (hst : StRel σ' m nt ⟨setD (dstOf cs j) (val j) (tmT cs val (S 0).tm D M), (S p).df, H.new ⟨(S j).h.next, .leaf⟩ o⟩ a' w') (hg : Good σ σ' ⟨(S j).h.next, .leaf⟩ (H.new ⟨(S j).h.next, .leaf⟩ o) w w') :
    Inv P nt ops cs M S val σ0 m w0 N (fun i => D i || i == j) a' w' σ' p := by
  have hpM : (S p).h.next ≤ (S M).h.next := C.next I.pM (Nat.le_refl _)
  have hnx : (S (j + 1)).h.next = (S j).h.next + 1 := by rw [hh, H.next_new]
  have hnl : isLoud (partK c.o) = false := by rw [hk]; rfl
  have hpj : p ≠ j := by
    rintro rfl
    rcases I.pl with e | ⟨c', h1, h2⟩
    · omega
    · rw [hc] at h1; cases h1; rw [hnl] at h2; cases h2
  have hne : ∀ b, b ≠ (S j).h.next → σ b = none → σ' b = none := fun b h1 hb => (hg.ext b).2 hb (by show b < (S j).h.next ∨ (S j).h.next + 1 ≤ b; omega)
  have hget : (S p).h.get (S j).h.next = none ∨ (S p).h.get (S j).h.next = some o := by
    rcases Nat.lt_or_ge j p with h | h
    · right
      have key : ∀ q, j < q → q ≤ p → (S q).h.get (S j).h.next = some o := by
        intro q
        induction q with
        | zero => intro h1; omega
        | succ q ih =>
          intro h1 h2
          have hpM' := I.pM
          by_cases e : q = j
          · subst e; rw [hh, H.get_new, if_pos rfl]
          · have hq := ih (by omega) (by omega)
            obtain ⟨cq, hcq, _, heff⟩ := C.eff (i := q) (by omega)
            cases heff with
            | off _ _ _ hs => rw [hs]; exact hq
            | still _ _ _ _ hs => rw [hs]; exact hq
            | made _ _ _ _ _ _ _ _ hs =>
              rw [hs, H.get_new, if_neg ?_]
              · exact hq
              · have : (S (j + 1)).h.next ≤ (S q).h.next := C.next (by omega) (by omega)
                omega
            | loud _ hlq h1' _ hs =>
              have hb : isLoud (partK cq.o) = true := by rw [hlq]; rfl
              have hm : isMade (partK c.o) = true := by rw [hk]; rfl
              have hD := I.below q cq (by omega) hcq hb
              have hnp : j ∉ (pres ops.toList).getD q [] := by
                intro g
                have := I.closed q j hD g; rw [hj] at this; cases this
              have hd : c.d ≠ none := by
                rcases C.pair (i := j) (j := q) (by omega) hc hcq with g | ⟨_, _, g⟩
                · exact absurd g hnp
                · exact g hm hb
              cases hcd : c.d with
              | none => exact absurd hcd hd
              | some d =>
                have h5 := C.kept hc hm hcd q (by omega) (by omega)
                have h6 : (S j).h.next ∈ nums (hideOf (madeOf cs 0) ((pres ops.toList).getD q []) q) (S q).tm := mem_nums (by rw [h5]; exact hnum) (mem_hideOf hc hm hcd (by omega) hnp)
                rw [hs, backAll_get, if_pos h6]
                exact hq
      exact key p h (Nat.le_refl _)
    · exact .inl (I.st.w.fresh _ (C.next h (by omega)))
  have hW : WRel σ' m (S p).h w' := I.st.w.beside hg hst.w hget
  have hgf : Good σ σ' ⟨(S j).h.next, (S p).h.t⟩ ⟨(S j).h.next + 1, (S p).h.t⟩ w w' := hg.fill
  refine ⟨?_, I.closed' hr, I.pM, I.pl, ?_, ?_, ⟨?_, hst.d, hW, hst.n⟩, ?_, ?_, ?_, ?_⟩
  · intro i hi
    rw [Bool.or_eq_true] at hi
    rcases hi with hi | hi
    · exact I.lt i hi
    · rw [beq_iff_eq] at hi; omega
  · rw [Bool.or_eq_false_iff]; exact ⟨I.pD, by simpa using hpj⟩
  · intro i ci hi hci hli
    rw [Bool.or_eq_true]; exact .inl (I.below i ci hi hci hli)
  · exact TRel.congr hst.t fun n => I.tm' C hjM hj
  · intro i ci o' h1 h2 hci hki hD hh'
    rw [Bool.or_eq_true] at hD
    have hnxi : (S (i + 1)).h.next = (S i).h.next + 1 := by rw [hh', H.next_new]
    rcases hD with hD | hD
    · refine Here.move I.st.w hg rfl (hne _ ?_) (I.early i ci o' h1 h2 hci hki hD hh')
      have hij : i ≠ j := by rintro rfl; rw [hj] at hD; cases hD
      rcases Nat.lt_or_ge i j with h | h
      · have : (S (i + 1)).h.next ≤ (S j).h.next := C.next (by omega) (by omega)
        omega
      · have : (S (j + 1)).h.next ≤ (S i).h.next := C.next (by omega) (by omega)
        omega
    · rw [beq_iff_eq] at hD; subst hD
      refine hst.w.here ?_
      have : (S i).h.new o = (S i).h.new o' := by rw [← hh, hh']
      have h3 := congrArg (fun h : H => h.get (S i).h.next) this
      simp only [H.get_new, if_pos rfl] at h3
      cases h3
      show (H.new ⟨(S i).h.next, .leaf⟩ o).get (S i).h.next = some o
      rw [H.get_new, if_pos rfl]
  · intro i hi hD b h1 h2
    rw [Bool.or_eq_false_iff] at hD
    have hij : i ≠ j := by simpa using hD.2
    refine hne b ?_ (I.free i hi hD.1 b h1 h2)
    rcases Nat.lt_or_ge i j with h | h
    · have : (S (i + 1)).h.next ≤ (S j).h.next := C.next (by omega) (by omega)
      omega
    · have : (S (j + 1)).h.next ≤ (S i).h.next := C.next (by omega) (by omega)
      omega
  · intro b h1 h2
    refine hne b ?_ (I.freeN b h1 h2)
    have : (S (j + 1)).h.next ≤ (S M).h.next := C.next (by omega) (Nat.le_refl _)
    omega
  · have h2N : (S j).h.next + 1 ≤ N := by
      have : (S (j + 1)).h.next ≤ (S M).h.next := C.next (by omega) (Nat.le_refl _)
      omega
    exact Good.transN (h1 := ⟨(S j).h.next, (S p).h.t⟩) (h2 := ⟨(S j).h.next + 1, (S p).h.t⟩) I.good hgf (C.next (Nat.zero_le _) (by omega)) h2N hf0

end
end
end A
end Go.Proofs.YtcohlhplpogopaaGreat

namespace Go.Proofs.YtcohlhplpogopaaGreat
namespace A

section
variable {P : Program} {nt : Nat} {call : Callee} {ops : Array Oper} {cs : List CO} {M : Nat} {S : Nat → St} {val : Nat → V}

theorem stepC_off {c : CO} {st : St} (h : wanted c.g st.tm = some false) : stepC call c st = some (.go ⟨setD c.d undefV st.tm, st.df, st.h⟩) := by
  rw [stepC_core, h]
theorem stepC_loud {c : CO} {st : St} {v : V} {df : List D} {h' : H} (h : wanted c.g st.tm = some true) (hs : core call c.o st.tm st.df st.h = some (.go v df h')) : stepC call c st = some (.go ⟨setD c.d v st.tm, df, h'⟩) := by
  rw [stepC_core, h]
  show (core call c.o st.tm st.df st.h).map _ = _
  rw [hs]; rfl
theorem stepC_quiet {c : CO} {st : St} {v : V} {h' : H} (h : wanted c.g st.tm = some true) (hk : partK c.o ≠ .loud) (hs : stepO c.o st.tm st.h = some (v, h')) : stepC call c st = some (.go ⟨setD c.d v st.tm, st.df, h'⟩) := by
  refine stepC_loud h ?_
  rw [core_quiet (quietK hk), hs]; rfl
theorem stepC_dies {c : CO} {st : St} {v : V} {h' : H} (h : wanted c.g st.tm = some true) (hs : core call c.o st.tm st.df st.h = some (.pan v h')) : stepC call c st = some (.pan v ⟨st.tm, st.df, h'⟩) := by
  rw [stepC_core, h]
  show (core call c.o st.tm st.df st.h).map _ = _
  rw [hs]; rfl
theorem stepHW_pan {hide : List Nat} {c : CO} {st st' : St} {v : V} (hs : stepHW hide call c st (wanted c.g st.tm) = some (.pan v st')) :
    wanted c.g st.tm = some true ∧ core call c.o st.tm st.df (hideAll (nums hide st.tm) st.h) = some (.pan v st'.h) ∧ st' = ⟨st.tm, st.df, st'.h⟩ := by
  rw [stepHW_core] at hs
  split at hs
  · rename_i hw
    cases hc : core call c.o st.tm st.df (hideAll (nums hide st.tm) st.h) with
    | none => rw [hc] at hs; cases hs
    | some r =>
      rw [hc] at hs
      cases r with
      | go v df h => cases hs
      | pan v h => cases hs; exact ⟨hw, rfl, rfl⟩
  · cases hs
  · cases hs

/- how many are left -/
def missing (D : Nat → Bool) : Nat → Nat
  | 0 => 0
  | n + 1 => missing D n + if D n = true then 0 else 1

theorem missing_zero {D : Nat → Bool} : ∀ {n : Nat}, missing D n = 0 → ∀ i, i < n → D i = true
  | 0, _, i, hi => absurd hi (Nat.not_lt_zero _)
  | n + 1, h, i, hi => by
    have h' : missing D n + (if D n = true then 0 else 1) = 0 := h
    by_cases hD : D n = true
    · rw [if_pos hD] at h'
      by_cases e : i = n
      · rw [e]; exact hD
      · exact missing_zero (by omega) i (by omega)
    · rw [if_neg hD] at h'; omega

theorem missing_le {D : Nat → Bool} : ∀ {n : Nat}, missing D n ≤ n
  | 0 => Nat.le_refl _
  | n + 1 => by
    show missing D n + _ ≤ _
    have := missing_le (D := D) (n := n)
    split <;> omega

theorem missing_congr {D D' : Nat → Bool} : ∀ {n : Nat}, (∀ i, i < n → D i = D' i) → missing D n = missing D' n
  | 0, _ => rfl
  | n + 1, h => by
    show missing D n + _ = missing D' n + _
    rw [missing_congr (n := n) fun i hi => h i (by omega), h n (by omega)]

theorem missing_set {D : Nat → Bool} {j : Nat} (hj : D j = false) : ∀ {n : Nat}, j < n → missing (fun i => D i || i == j) n + 1 = missing D n
  | 0, h => absurd h (Nat.not_lt_zero _)
  | n + 1, h => by
    show missing _ n + (if (D n || n == j) = true then 0 else 1) + 1 = missing D n + _
    by_cases e : j = n
    · subst e
      rw [missing_congr (n := j) (D' := D) fun i hi => by
        have : (i == j) = false := by simp; omega
        rw [this, Bool.or_false], hj]
      simp
    · have := missing_set hj (n := n) (by omega)
      have h2 : (n == j) = false := by simp; omega
      rw [h2, Bool.or_false]
      omega

theorem edgesOk_get : ∀ {l : List Oper} {j0 : Nat}, edgesOk l j0 = true → ∀ i o, l[i]? = some o → ∀ e, e ∈ o.after.toList → Region.binds .any e = true → e.on < j0 + i
  | [], _, _, _, _, h => by simp at h
  | x :: l, j0, h, i, o, hi => by
    have h' : and (x.after.toList.all fun e => or (not (Region.binds .any e)) (Nat.blt e.on j0)) (edgesOk l (j0 + 1)) = true := h
    rw [Bool.and_eq_true] at h'
    cases i with
    | zero =>
      simp at hi; subst hi
      intro e he hb
      have := List.all_eq_true.1 h'.1 e he
      rw [hb] at this
      exact blt_lt (by simpa using this)
    | succ i =>
      intro e he hb
      have := edgesOk_get h'.2 i o (by simpa using hi) e he hb
      omega

section
variable {σ0 : Sg} {m w0 : World} {N : Nat} {Q : Exit → Go.Act → World → Prop}

/-- how the region ends. -/
def Ends (nt : Nat) (call : Callee) (ops : Array Oper) (cs : List CO) (M : Nat) (S : Nat → St) (σ0 : Sg) (m w0 : World) (N : Nat) (Q : Exit → Go.Act → World → Prop) : Prop :=
  (M = cs.length ∧ ∀ σ a w, StRel σ m nt (S M) a w → Good σ0 σ (S 0).h ⟨N, (S M).h.t⟩ w0 w → Q .normal a w) ∨
  (∃ c v h' ns, cs[M]? = some c ∧ isLoud (partK c.o) = true ∧ (∀ j, M < j → j < cs.length → M ∈ (pres ops.toList).getD j []) ∧ wanted c.g (S M).tm = some true ∧ core call c.o (S M).tm (S M).df (hideAll ns (S M).h) = some (.pan v h') ∧ h'.next ≤ N ∧
    ∀ σ x D val a w, VRel σ m v x → StRel σ m nt ⟨tmT cs val (S 0).tm D M, (S M).df, h'⟩ a w → Good σ0 σ (S 0).h ⟨N, h'.t⟩ w0 w → Q (.panic (one x)) a w)

theorem loBelow_le {D : Nat → Bool} {p : Nat} {pre : List Nat} (hcs : ∀ i c, cs[i]? = some c → isLoud (partK c.o) = true → D i = true → i < p) (hr : ∀ k, k ∈ pre → D k = true) : loBelow (loudOf cs 0) pre ≤ nl cs p := by
  unfold loBelow nl
  rw [← List.countP_eq_length_filter, ← List.countP_eq_length_filter]
  refine List.countP_mono_left fun n hn h => ?_
  obtain ⟨i, c, h1, h2, h3⟩ := mem_loudOf hn
  have hi : n = i := by omega
  subst hi
  have := hcs n c h1 h3 (hr n (hasN_mem.1 h))
  simpa using this

theorem hiBelow_ge {D : Nat → Bool} {p j : Nat} {ps : List (List Nat)} (hcs : ∀ i c, i < p → cs[i]? = some c → isLoud (partK c.o) = true → D i = true) (hcl : ∀ i k, D i = true → k ∈ ps.getD i [] → D k = true) (hj : D j = false) : nl cs p ≤ hiBelow (loudOf cs 0) ps j := by
  unfold hiBelow nl
  rw [← List.countP_eq_length_filter, ← List.countP_eq_length_filter]
  refine List.countP_mono_left fun n hn h => ?_
  obtain ⟨i, c, h1, h2, h3⟩ := mem_loudOf hn
  have hi : n = i := by omega
  subst hi
  have hD := hcs n c (by simpa using h) h1 h3
  cases hb : hasN (ps.getD n []) j with
  | false => rfl
  | true => rw [hcl n j hD (hasN_mem.1 hb)] at hj; cases hj

theorem Inv.all {D : Nat → Bool} {a : Go.Act} {w : World} {σ : Sg} {p : Nat} (C : Ctx P nt call ops cs M S val) (hE : Ends nt call ops cs M S σ0 m w0 N Q) (I : Inv P nt ops cs M S val σ0 m w0 N D a w σ p) (hall : ∀ i, i < ops.size → D i = true) : Q .normal a w := by
  rcases hE with ⟨hM, h⟩ | ⟨c, v, h', ns, hc, _⟩
  · have hp : p = M := by
      rcases Nat.lt_or_ge p M with g | g
      · have := hall p (by rw [C.size, ← hM]; exact g); rw [I.pD] at this; cases this
      · exact Nat.le_antisymm I.pM g
    obtain rfl := hp
    have hst := I.st
    refine h σ a w ⟨TRel.congr hst.t fun n => ?_, hst.d, hst.w, hst.n⟩ I.good
    rw [C.tm p (Nat.le_refl _)]
    exact (congrArg (fun t => T.nth t n) (tmT_congr p fun i hi => by rw [hall i (by rw [C.size, ← hM]; exact hi)]))
  · have hlt : M < cs.length := (List.getElem?_eq_some_iff.1 hc).1
    have := I.lt M (hall M (by rw [C.size]; exact hlt))
    omega

theorem any_sound (C : Ctx P nt call ops cs M S val) (hcall : CallOK P m call) (hN : (S M).h.next ≤ N) (hf0 : Free σ0 (S 0).h.next N) (hE : Ends nt call ops cs M S σ0 m w0 N Q) : ∀ (fuel : Nat) (listed : Array Bool) (a : Go.Act) (w : World) (σ : Sg) (p : Nat),
    listed.size = ops.size → Inv P nt ops cs M S val σ0 m w0 N (fun i => listed.getD i false) a w σ p → missing (fun i => listed.getD i false) ops.size ≤ fuel → wpAny P .any ops Q fuel listed a w
  | 0, listed, a, w, σ, p, hsz, I, hfu => by
    have hall := missing_zero (Nat.le_zero.1 hfu)
    refine ⟨?_, I.all C hE hall⟩
    rw [List.eq_nil_iff_forall_not_mem]
    intro j hj
    obtain ⟨h1, o, ho, _⟩ := mem_ready.1 hj
    have hlt : j < ops.size := (Array.getElem?_eq_some_iff.1 ho).1
    have := hall j hlt
    simp only [Array.getD_eq_getD_getElem?, Array.getElem?_eq_getElem (show j < listed.size by omega), Option.getD_some] at this h1
    rw [this] at h1; cases h1
  | fuel + 1, listed, a, w, σ, p, hsz, I, hfu => by
    refine ⟨fun hnil => I.all C hE ?_, ?_⟩
    · intro i
      induction i using Nat.strongRecOn with
      | _ i ih =>
        intro hi
        cases hD : listed.getD i false with
        | true => rfl
        | false =>
          exfalso
          have hmem : i ∈ Region.ready .any ops listed := by
            refine mem_ready.2 ⟨?_, ops[i], Array.getElem?_eq_getElem hi, fun e he hb => ?_⟩
            · simp only [Array.getD_eq_getD_getElem?, Array.getElem?_eq_getElem (show i < listed.size by omega), Option.getD_some] at hD ⊢
              exact hD
            · have h1 := edgesOk_get C.edges i ops[i] (by simp [hi]) e (by simpa using he) hb
              exact ih e.on (by omega) (by omega)
          rw [hnil] at hmem; cases hmem
    · intro j hjr
      obtain ⟨h1, o, ho, hed⟩ := mem_ready.1 hjr
      have hjs : j < ops.size := (Array.getElem?_eq_some_iff.1 ho).1
      have hj : (fun i => listed.getD i false) j = false := by
        simp only [Array.getD_eq_getD_getElem?, Array.getElem?_eq_getElem (show j < listed.size by omega), Option.getD_some] at h1 ⊢
        exact h1
      have hr : ∀ k, k ∈ (pres ops.toList).getD j [] → (fun i => listed.getD i false) k = true := by
        intro k hk
        obtain ⟨o', e, g1, g2, g3, g4⟩ := pres_mem hk
        have : o' = o := by
          have : ops[j]? = some o' := by simpa using g1
          rw [ho] at this; cases this; rfl
        subst this
        have hD := hed e (by simpa using g2) g3
        rcases g4 with rfl | g4
        · exact hD
        · exact I.closed e.on k hD g4
      obtain ⟨c, hc, hco⟩ := C.get ho
      have hset : (fun i => (listed.setIfInBounds j true).getD i false) = (fun i => (fun i => listed.getD i false) i || i == j) := by
        funext i
        simp only [Array.getD_eq_getD_getElem?]
        by_cases e : j = i
        · subst e
          rw [Array.getElem?_setIfInBounds_self_of_lt (by omega)]
          simp
        · rw [Array.getElem?_setIfInBounds_ne e]
          have : (i == j) = false := by simp; omega
          rw [this, Bool.or_false]
      have next : ∀ {a' : Go.Act} {w' : World} {σ' : Sg} {p' : Nat}, Inv P nt ops cs M S val σ0 m w0 N (fun i => (fun i => listed.getD i false) i || i == j) a' w' σ' p' → wpAny P .any ops Q fuel (listed.setIfInBounds j true) a' w' := by
        intro a' w' σ' p' I'
        refine any_sound C hcall hN hf0 hE fuel _ a' w' σ' p' (by simp [hsz]) (by rw [hset]; exact I') ?_
        rw [hset]
        have h5 := missing_set (D := fun i => listed.getD i false) hj hjs
        exact Nat.le_of_succ_le_succ (Nat.le_trans (Nat.le_of_eq h5) hfu)
      have hdst : dstOf cs j = c.d := by simp [dstOf, hc]
      have hopwp : OpWp P ops o a w (wpAny P .any ops Q fuel (listed.setIfInBounds j true)) Q → wpOp P ops Q j (wpAny P .any ops Q fuel (listed.setIfInBounds j true)) a w := by
        intro h; unfold wpOp; rw [ho]; exact h
      refine hopwp ?_
      have hjM : j ≤ M := by
        rcases hE with ⟨hM, _⟩ | ⟨c', v, h', ns, hc', _, hlast, _⟩
        · rw [hM, ← C.size]; omega
        · rcases Nat.lt_or_ge M j with g | g
          · have := I.lt M (hr M (hlast j g (by rw [← C.size]; exact hjs))); omega
          · exact g
      have hag := I.agree C hjM hj hr hc
      rcases Nat.lt_or_ge j M with hlt | hge
      · obtain ⟨c', hc', _, heff⟩ := C.eff hlt
        rw [hc] at hc'; cases hc'
        cases heff with
        | off hw hv hdf hh =>
          have hw' : wanted c.g (tmT cs val (S 0).tm (fun i => listed.getD i false) M) = some false := by rw [← wanted_agree hag]; exact hw
          have hs := stepC_off (call := call) (c := c) (st := ⟨tmT cs val (S 0).tm (fun i => listed.getD i false) M, (S p).df, (S p).h⟩) hw'
          refine oper_sound hcall hco hs I.st (fun b h1 h2 => ?_) ?_
          · have h2' : b < (S p).h.next := h2
            have h1' : (S p).h.next ≤ b := h1
            omega
          · intro σ' a' w' hst' hg'
            rw [← hdst, ← hv] at hst'
            cases hl : isLoud (partK c.o) with
            | false => exact next (I.stay C hN hf0 hlt hj hr hc hl hh hst' hg')
            | true =>
              obtain rfl := I.first C hjM hj hr hc hl
              rw [← hdf, ← hh] at hst'
              have hg2 : Good σ σ' (S j).h (S (j + 1)).h w w' := by rw [hh]; exact hg'
              obtain ⟨p', I'⟩ := I.advance C hN hf0 hlt hr hst' hg2
              exact next I'
        | still hw hk hs0 hdf hh =>
          have hw' : wanted c.g (tmT cs val (S 0).tm (fun i => listed.getD i false) M) = some true := by rw [← wanted_agree hag]; exact hw
          have hnl : isLoud (partK c.o) = false := by rcases hk with hk | hk <;> rw [hk] <;> rfl
          have hkl : partK c.o ≠ .loud := by rcases hk with hk | hk <;> rw [hk] <;> (intro e; cases e)
          have hs1 : stepO c.o (S j).tm (S p).h = some (val j, (S p).h) := by
            rcases hk with hk | hk
            · obtain ⟨q, hq⟩ := pure_step hk (S j).tm
              rw [hq] at hs0 ⊢
              cases q with
              | none => cases hs0
              | some u => cases hs0; rfl
            · obtain ⟨h', hh'⟩ := C.read j c p hlt hc hk hw I.pM I.pl (loBelow_le (D := fun i => listed.getD i false) (by
                intro i ci hci hli hDi
                rcases Nat.lt_trichotomy i p with g | g | g
                · exact g
                · subst g; rw [I.pD] at hDi; cases hDi
                · rcases I.pl with e | ⟨cp, e1, e2⟩
                  · have := I.lt i hDi; omega
                  · rcases C.pair g e1 hci with e3 | ⟨_, e3, _⟩
                    · have := I.closed i p hDi e3; rw [I.pD] at this; cases this
                    · exact (e3 e2 hli).elim) hr)
                (hiBelow_ge (D := fun i => listed.getD i false) (fun i ci h1 h2 h3 => I.below i ci h1 h2 h3) I.closed hj)
              have := read_step hk hh'
              rw [this] at hh'; exact hh'
          rw [stepO_agree c.o hag.left] at hs1
          have hs := stepC_quiet (call := call) (c := c) (st := ⟨tmT cs val (S 0).tm (fun i => listed.getD i false) M, (S p).df, (S p).h⟩) hw' hkl hs1
          refine oper_sound hcall hco hs I.st (fun b h1 h2 => ?_) ?_
          · have h2' : b < (S p).h.next := h2
            have h1' : (S p).h.next ≤ b := h1
            omega
          · intro σ' a' w' hst' hg'
            rw [← hdst] at hst'
            exact next (I.stay C hN hf0 hlt hj hr hc hnl hh hst' hg')
        | made hw hk mk x hkn hmk hv hdf hh =>
          have hw' : wanted c.g (tmT cs val (S 0).tm (fun i => listed.getD i false) M) = some true := by rw [← wanted_agree hag]; exact hw
          have hs1 : stepO c.o (tmT cs val (S 0).tm (fun i => listed.getD i false) M) ⟨(S j).h.next, .leaf⟩ = some (val j, H.new ⟨(S j).h.next, .leaf⟩ x) := by
            rw [← stepO_agree c.o hag.left, hmk, hv]
          have hs := stepC_quiet (call := call) (c := c) (st := ⟨tmT cs val (S 0).tm (fun i => listed.getD i false) M, (S p).df, ⟨(S j).h.next, .leaf⟩⟩) hw' (by rw [hk]; intro e; cases e) hs1
          have hst0 : StRel σ m nt ⟨tmT cs val (S 0).tm (fun i => listed.getD i false) M, (S p).df, ⟨(S j).h.next, .leaf⟩⟩ a w := ⟨I.st.t, I.st.d, I.st.w.leaf _, I.st.n⟩
          refine oper_sound hcall hco hs hst0 (fun b h1 h2 => ?_) ?_
          · have h2' : b < (S j).h.next + 1 := h2
            refine I.free j hlt hj b h1 ?_
            rw [hh, H.next_new]; exact h2'
          · intro σ' a' w' hst' hg'
            rw [← hdst] at hst'
            exact next (I.make C hN hf0 hlt hj hr hc hk (by rw [hv]; exact hkn _) hh hst' hg')
        | loud hw hk h1' hcore hh1 =>
          have hw' : wanted c.g (tmT cs val (S 0).tm (fun i => listed.getD i false) M) = some true := by rw [← wanted_agree hag]; exact hw
          have hl : isLoud (partK c.o) = true := by rw [hk]; rfl
          obtain rfl := I.first C hjM hj hr hc hl
          rw [core_agree c.o hag.left] at hcore
          generalize hns : nums (hideOf (madeOf cs 0) ((pres ops.toList).getD j []) j) (S j).tm = ns at hcore hh1
          have hs := stepC_loud (call := call) (c := c) (st := ⟨tmT cs val (S 0).tm (fun i => listed.getD i false) M, (S j).df, hideAll ns (S j).h⟩) hw' hcore
          have hst0 : StRel σ m nt ⟨tmT cs val (S 0).tm (fun i => listed.getD i false) M, (S j).df, hideAll ns (S j).h⟩ a w := ⟨I.st.t, I.st.d, I.st.w.hide ns, I.st.n⟩
          have hnx : (S (j + 1)).h.next = h1'.next := by rw [hh1, backAll_next]
          refine oper_sound hcall hco hs hst0 (fun b h1 h2 => I.free j hlt hj b (by rw [← hideAll_next ns (S j).h]; exact h1) (by rw [hnx]; exact h2)) ?_
          intro σ' a' w' hst' hg'
          rw [← hdst] at hst'
          have hst2 : StRel σ' m nt ⟨setD (dstOf cs j) (val j) (tmT cs val (S 0).tm (fun i => listed.getD i false) M), (S (j + 1)).df, (S (j + 1)).h⟩ a' w' := ⟨hst'.t, hst'.d, by
            show WRel σ' m (S (j + 1)).h w'
            rw [hh1]; exact I.st.w.back hg' hst'.w, hst'.n⟩
          have hg2 : Good σ σ' (S j).h (S (j + 1)).h w w' := by rw [hh1]; exact Good.back hg'
          obtain ⟨p', I'⟩ := I.advance C hN hf0 hlt hr hst2 hg2
          exact next I'
      · have hjM' : j = M := Nat.le_antisymm hjM hge
        subst hjM'
        rcases hE with ⟨hM, _⟩ | ⟨c', v, h', ns, hc', hl, hlast, hw, hcore, hN', hQ⟩
        · rw [← C.size] at hM; omega
        · rw [hc] at hc'; cases hc'
          obtain rfl := I.first C hjM hj hr hc hl
          have hw' : wanted c.g (tmT cs val (S 0).tm (fun i => listed.getD i false) j) = some true := by rw [← wanted_agree hag]; exact hw
          rw [core_agree c.o hag.left] at hcore
          have hs := stepC_dies (call := call) (c := c) (st := ⟨tmT cs val (S 0).tm (fun i => listed.getD i false) j, (S j).df, hideAll ns (S j).h⟩) hw' hcore
          have hst0 : StRel σ m nt ⟨tmT cs val (S 0).tm (fun i => listed.getD i false) j, (S j).df, hideAll ns (S j).h⟩ a w := ⟨I.st.t, I.st.d, I.st.w.hide ns, I.st.n⟩
          refine oper_sound hcall hco hs hst0 (fun b h1 h2 => I.freeN b (by rw [← hideAll_next ns (S j).h]; exact h1) (Nat.lt_of_lt_of_le h2 hN')) ?_
          intro σ' x w' hv hst' hg'
          exact hQ σ' x _ val a w' hv hst' ((I.good.hid ns).transN hg' (by rw [hideAll_next]; exact C.next (Nat.zero_le _) (Nat.le_refl _)) hN' hf0)

end

theorem getD_replicate (n i : Nat) : (Array.replicate n false).getD i false = false := by
  simp only [Array.getD_eq_getD_getElem?, Array.getElem?_replicate]
  split <;> rfl

/-- nothing is done yet. -/
theorem Inv.start {σ : Sg} {m w : World} {N : Nat} {a : Go.Act} (C : Ctx P nt call ops cs M S val) (hN : (S M).h.next ≤ N) (hst : StRel σ m nt (S 0) a w) (hf : Free σ (S 0).h.next N) : ∃ p, Inv P nt ops cs M S val σ m w N (fun _ => false) a w σ p := by
  obtain ⟨p, _, h2, h3, h4⟩ := nextLoud cs M 0 M (by omega)
  have hfree : ∀ i, i < M → ∀ b, (S i).h.next ≤ b → b < (S (i + 1)).h.next → σ b = none := by
    intro i hi b h1 h2
    have g1 := C.next (i := 0) (j := i) (by omega) (by omega)
    have g2 := C.next (i := i + 1) (j := M) (by omega) (by omega)
    exact hf b (by omega) (by omega)
  have h0N : (S 0).h.next ≤ N := Nat.le_trans (C.next (Nat.zero_le _) (Nat.le_refl _)) hN
  obtain ⟨k1, k2, k3⟩ := C.climb (σ0 := σ) (w0 := w) (h0 := (S 0).h) hst.w ⟨h0N, Ext.refl _ _ _, Nat.le_refl _, fun _ _ _ => rfl, fun b blk hn ht => by rcases ht with ⟨o, s, e⟩ | e <;> simp [hn] at e, fun _ hb _ => hb, ⟨rfl, rfl, rfl⟩, fun _ _ _ h => h⟩ (Nat.le_refl _) hN p (Nat.zero_le _) h2
    (fun i c _ h => h4 i c (Nat.zero_le _) h) (fun i c o _ hi hc hk hh => Here.none (hfree i (by omega) _ (Nat.le_refl _) (by rw [hh, H.next_new]; omega)) o)
  refine ⟨p, ⟨fun _ h => (by cases h), fun _ _ h => (by cases h), h2, h3, rfl, fun i c hi hc hl => ?_, ⟨TRel.congr hst.t fun n => ?_, ?_, k1, hst.n⟩, fun _ _ _ _ _ _ _ h => (by cases h), fun i hi _ => hfree i hi, fun b h1 h2 => ?_, k3⟩⟩
  · have := h4 i c (Nat.zero_le _) hi hc; rw [hl] at this; cases this
  · exact tmT_none M fun i _ h => by cases h
  · show DRel σ m (S p).df a.defers
    rw [k2]; exact hst.d
  · exact hf b (Nat.le_trans (C.next (Nat.zero_le _) (Nat.le_refl _)) h1) h2

theorem regDO_some {os : List Oper} {r : Option (List CO)} {l : List (Part × CO)} (h : regDO os r = some (.regD l)) : ∃ cs, r = some cs ∧ edgesOk os 0 = true ∧ allOk (pres os) cs 0 = true ∧ l = partsOf (loudOf cs 0) (madeOf cs 0) (pres os) cs 0 := by
  unfold regDO at h
  split at h
  · rename_i cs
    obtain ⟨h1, h2⟩ := condN_some h
    rw [Bool.and_eq_true] at h1
    cases h2
    exact ⟨cs, rfl, h1.1, h1.2, rfl⟩
  · cases h

theorem regR_some {ck : Ck} {l : List (Part × CO)} {tm : TM} {o : Option OutD} {e : E} {st' : St} (h : regR ck l tm o = some (e, st')) :
    (∃ hs rs, o = some (.go st' hs rs) ∧ ck hs rs = true ∧ e = .nor) ∨ (∃ v st hs rs, o = some (.pan v st hs rs) ∧ ck hs rs = true ∧ e = .pan v ∧ st' = ⟨forget l tm, st.df, st.h⟩) := by
  unfold regR at h
  split at h
  · rename_i st hs rs
    obtain ⟨h1, h2⟩ := condN_some h
    cases h2
    exact .inl ⟨hs, rs, rfl, h1, rfl⟩
  · rename_i v st hs rs
    obtain ⟨h1, h2⟩ := condN_some h
    cases h2
    exact .inr ⟨v, st, hs, rs, rfl, h1, rfl, rfl⟩
  · cases h

theorem lastOf_get {ps : List (List Nat)} {i : Nat} : ∀ {n j : Nat}, lastOf ps i j n = true → ∀ k, j ≤ k → k < j + n → i ∈ ps.getD k []
  | 0, j, _, k, h1, h2 => by omega
  | n + 1, j, h, k, h1, h2 => by
    have h' : and (hasN (ps.getD j []) i) (lastOf ps i (j + 1) n) = true := h
    rw [Bool.and_eq_true] at h'
    by_cases e : k = j
    · subst e; exact hasN_mem.1 h'.1
    · exact lastOf_get h'.2 k (by omega) (by omega)

theorem pres_length (os : List Oper) : (pres os).length = os.length := by
  have key : ∀ (os : List Oper) (acc : List (List Nat)), (os.foldl (fun acc o => acc ++ [preOf acc o.after.toList]) acc).length = acc.length + os.length := by
    intro os
    induction os with
    | nil => intro acc; rfl
    | cons o os ih => intro acc; rw [List.foldl_cons, ih]; simp; omega
  have := key os []
  simpa [pres] using this

theorem regD_sound {ck : Ck} (hm : P.follows .mixedOrders = true) (hck : CkOK ck) {m : World} (hcall : CallOK P m call) : RegDOK P m nt ck call := by
  intro id ops l hc σ st a w e st' hs hst hf
  obtain ⟨cs, hcs, hed, hall, rfl⟩ := regDO_some hc
  have main : ∀ (o : OutD) (M : Nat) (sM : St), runD (partsOf (loudOf cs 0) (madeOf cs 0) (pres ops.toList) cs 0) call st [] [] = some o → ck o.heaps o.recs = true → canon call (partsOf (loudOf cs 0) (madeOf cs 0) (pres ops.toList) cs 0) st M = some sM → M ≤ cs.length →
      (M = cs.length ∨ ∃ p, (partsOf (loudOf cs 0) (madeOf cs 0) (pres ops.toList) cs 0)[M]? = some p ∧ stepW' call p sM = none) → sM.h.next ≤ st'.h.next →
      (∀ S : Nat → St, S 0 = st → S M = sM → Ends nt call ops cs M S σ m w st'.h.next (PostE σ m nt st.h w e st')) → (Code.region id ops true).wp P (PostE σ m nt st.h w e st') a w := by
    intro o M sM hrun hck' hcan hM hend hnx hE
    obtain ⟨_, hheaps, _, hreads⟩ := runD_canon hrun
    obtain ⟨S, val, h0, h1, hrow⟩ := row_of_canon M _ st sM hcan
    subst h0
    subst h1
    have C : Ctx P nt call ops cs M S val := by
      refine ⟨hcs, hed, hall, hrow, hM, hcall.mono, ?_⟩
      intro j c p hj hcj hk hw hp hpl hlo hhi
      have hget : (partsOf (loudOf cs 0) (madeOf cs 0) (pres ops.toList) cs 0)[j]? = some (.read (loBelow (loudOf cs 0) ((pres ops.toList).getD j [])) (hiBelow (loudOf cs 0) (pres ops.toList) j), c) := by
        rw [partsOf_get, hcj]
        simp only [Option.map_some, Nat.zero_add, hk, partOf]
      obtain ⟨q, hq1, hq2⟩ := hrow.step j hj
      rw [hget] at hq1; cases hq1
      have hmem := hreads j c _ _ (S j) (val j) (S (j + 1)) hget (hrow.here j (by omega)) hq2 hw
      have hH := louds_get cs 0 M S val hrow hend p hp hpl
      exact hck _ _ hck' _ hmem (nl cs p) (S p).h (by rw [hheaps, List.reverse_nil, List.nil_append]; exact hH) hlo hhi
    refine wp_region_any hm ?_
    have hst2 : StRel σ m nt (S 0) a { w with drawn := w.drawn + 1 } := ⟨hst.t, hst.d, hst.w.draw _, hst.n⟩
    obtain ⟨p, I⟩ := Inv.start C hnx hst2 hf
    have hwd : ∀ {σ' : Sg} {h' : H} {w' : World}, Good σ σ' (S 0).h h' { w with drawn := w.drawn + 1 } w' → Good σ σ' (S 0).h h' w w' := fun g => ⟨g.le, g.ext, g.size, g.frame, g.new, g.gone, g.rest, g.keep⟩
    have hE2 : Ends nt call ops cs M S σ m { w with drawn := w.drawn + 1 } st'.h.next (PostE σ m nt (S 0).h w e st') := by
      rcases hE S rfl rfl with ⟨g1, g2⟩ | ⟨c, v, h', ns, g1, g2, g3, g4, g5, g6, g7⟩
      · exact .inl ⟨g1, fun σ' a' w' k1 k2 => g2 σ' a' w' k1 (hwd k2)⟩
      · exact .inr ⟨c, v, h', ns, g1, g2, g3, g4, g5, g6, fun σ' x D val' a' w' k1 k2 k3 => g7 σ' x D val' a' w' k1 k2 (hwd k3)⟩
    refine any_sound C hcall hnx hf hE2 ops.size (Array.replicate ops.size false) a _ σ p (by simp) ?_ missing_le
    have : (fun i => (Array.replicate ops.size false).getD i false) = (fun _ => false) := funext fun i => getD_replicate _ i
    rw [this]; exact I
  rcases regR_some hs with ⟨hs0, rs, hrun, hck', rfl⟩ | ⟨v, st1, hs0, rs, hrun, hck', rfl, rfl⟩
  · obtain ⟨hend, _⟩ := runD_canon hrun
    cases hend with
    | go _ _ _ h =>
      rw [partsOf_length] at h
      refine main _ cs.length st' hrun hck' h (Nat.le_refl _) (.inl rfl) (Nat.le_refl _) ?_
      intro S h0 h1
      refine .inl ⟨rfl, fun σ' a' w' k1 k2 => ?_⟩
      rw [h1] at k1 k2
      rw [h0] at k2
      exact ⟨σ', k1, k2⟩
  · obtain ⟨hend, _⟩ := runD_canon hrun
    cases hend with
    | pan _ _ _ _ K hide c s h1 h2 h3 =>
      have hKc : ∃ pc, cs[K]? = some pc ∧ Part.loud true hide = partOf (loudOf cs 0) (madeOf cs 0) (pres ops.toList) K (partK pc.o) ∧ c = pc := by
        rw [partsOf_get, Nat.zero_add] at h1
        cases hcK : cs[K]? with
        | none => rw [hcK] at h1; cases h1
        | some pc =>
          rw [hcK] at h1
          simp only [Option.map_some, Option.some.injEq, Prod.mk.injEq] at h1
          exact ⟨pc, rfl, h1.1.symm, h1.2.symm⟩
      obtain ⟨pc, hcK, hpart, rfl⟩ := hKc
      have hlt : K < cs.length := (List.getElem?_eq_some_iff.1 hcK).1
      have hl : isLoud (partK c.o) = true := by
        have := congrArg Part.isLoud hpart
        rw [partOf_loud] at this
        exact this.symm
      have hlast : lastOf (pres ops.toList) K (K + 1) ((pres ops.toList).length - (K + 1)) = true := by
        cases hk : partK c.o with
        | loud => rw [hk] at hpart; simp only [partOf, Part.loud.injEq] at hpart; exact hpart.1.symm
        | _ => rw [hk] at hl; cases hl
      obtain ⟨hw, hcore, hst1⟩ := stepHW_pan h3
      have hlen : (pres ops.toList).length = cs.length := by rw [pres_length]; exact (compOps_get hcs).1
      refine main _ K s hrun hck' h2 (by omega) (.inr ⟨_, h1, stepW'_of_pan h3⟩) (show s.h.next ≤ st1.h.next from stepHW_next (o := .pan v st1) hcall.mono h3) ?_
      intro S h0 h1'
      refine .inr ⟨c, v, st1.h, nums hide s.tm, hcK, hl, fun j g1 g2 => lastOf_get hlast j (by omega) (by omega), by rw [h1']; exact hw, by rw [h1']; exact hcore, Nat.le_refl _, ?_⟩
      intro σ' x D val' a' w' k1 k2 k3
      rw [h0] at k3
      refine ⟨σ', x, rfl, k1, ⟨fun n => ?_, ?_, k2.w, k2.n⟩, k3⟩
      · rcases forget_nth n (partsOf (loudOf cs 0) (madeOf cs 0) (pres ops.toList) cs 0) st.tm with g | ⟨g1, g2⟩
        · show VRel σ' m ((forget _ st.tm).nth n) _
          rw [g]; simp only [VRel]
        · show VRel σ' m ((forget _ st.tm).nth n) _
          rw [g1]
          have := k2.t n
          rw [tmT_none K (fun i hi hD hd => ?_), h0] at this
          · exact this
          · cases hci : cs[i]? with
            | none => simp [dstOf, hci] at hd
            | some ci =>
              refine g2 (partOf (loudOf cs 0) (madeOf cs 0) (pres ops.toList) (0 + i) (partK ci.o), ci) ?_ (by simpa [dstOf, hci] using hd)
              refine List.mem_of_getElem? (i := i) ?_
              rw [partsOf_get, hci]; rfl
      · show DRel σ' m st1.df a'.defers
        rw [hst1]
        have := k2.d
        rw [h1'] at this
        exact this

theorem evF_ok {ck : Ck} (hm : P.follows .mixedOrders = true) (hck : CkOK ck) {m : World} {fs : Fs} (hfs : FsOK P fs) {sp : Sp} (hsp : SpOK P m sp) (n : Nat) : CallOK P m (evF ck sp fs n) :=
  evF_sound (fun nt call hcall => regD_sound hm hck hcall) hfs hsp n

end
end A
end Go.Proofs.YtcohlhplpogopaaGreat

