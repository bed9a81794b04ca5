/-
  inserting, closed calls, the program logic. (No statement of the seat is proved here.)
-/
import Derived.Test.YtcohlhplpogopaaGreatGa
import Derived.Test.YtcohlhplpogopaaGreatGf
set_option linter.unusedSimpArgs false
set_option linter.unusedVariables false
namespace Go.Proofs.YtcohlhplpogopaaGreat
namespace A
noncomputable section

def isZero (v : V) : Bool :=
  match v with
  | .lit (.int k n) => and (beqK k .i64) (eqI n 0)
  | _ => false
def insBoth (h : H) (b : Nat) (o o' : Option (List V)) : Option (Ret × H) :=
  match o, o' with
  | some x, some y => cond (and (and (not (allB x)) (not (allB y))) (and (allAtoms x) (allAtoms y))) (some (.ok (.slc h.next 0 2 3 none), (h.set b none).new (.cells (appL y x)))) none
  | _, _ => none
def insOk (off len es : Nat) (i : V) (off' len' es' b b' : Nat) : Bool :=
  and (and (Nat.beq off 0) (and (Nat.beq len 1) (Nat.beq es 3))) (and (isZero i) (and (and (Nat.beq off' 0) (and (Nat.beq len' 1) (Nat.beq es' 3))) (not (Nat.beq b b'))))
def insert1 (args : List V) (h : H) : Option (Ret × H) :=
  match args with
  | [.slc b off len es _, i, .slc b' off' len' es' _] => cond (insOk off len es i off' len' es' b b') (insBoth h b (cutO (h.cells b) 0 3) (cutO (h.cells b') 0 3)) none
  | _ => none

end
end A
end Go.Proofs.YtcohlhplpogopaaGreat

namespace Go.Proofs.YtcohlhplpogopaaGreat
namespace A

def GoodF (P : Program) (id : FuncId) (f : F) : Prop := ∃ fn, P.funcs[id]? = some fn ∧ compF P fn = some f

def OkT (P : Program) : (Nat → Nat) → T F → Prop
  | _, .leaf => True
  | g, .node o l r => (∀ f, o = some f → GoodF P (g 0) f) ∧ OkT P (fun i => g (2 * i + 1)) l ∧ OkT P (fun i => g (2 * i + 2)) r

theorem okS {P : Program} {id : FuncId} {f : F} (h : GoodF P id f) : ∀ f', some f = some f' → GoodF P id f' := fun _ e => by cases e; exact h
theorem okN {P : Program} {id : FuncId} : ∀ f' : F, none = some f' → GoodF P id f' := fun _ e => by cases e

theorem okT_get {P : Program} : ∀ (g : Nat → Nat) (t : T F), OkT P g t → ∀ id f, t.get id = some f → GoodF P (g id) f
  | g, .leaf, _, id, f, h => by cases h
  | g, .node o l r, hk, id, f, h => by
    obtain ⟨h1, h2, h3⟩ := hk
    cases id with
    | zero => exact h1 f h
    | succ j =>
      rw [T.get_succ] at h
      by_cases e : j % 2 = 0
      · rw [if_pos e] at h
        have := okT_get _ l h2 (j / 2) f h
        rw [show 2 * (j / 2) + 1 = j + 1 from by omega] at this
        exact this
      · rw [if_neg e] at h
        have := okT_get _ r h3 (j / 2) f h
        rw [show 2 * (j / 2) + 2 = j + 1 from by omega] at this
        exact this

/-- what a call leaves as it was: everything. -/
structure Same (w w' : World) : Prop where
  size : w.heap.size ≤ w'.heap.size
  old : ∀ i, i < w.heap.size → w'.heap[i]? = w.heap[i]?
  rest : w'.os = w.os ∧ w'.output = w.output ∧ w'.tape = w.tape

theorem nothing_rel (w : World) : WRel (fun _ => none) w ⟨0, .leaf⟩ w :=
  ⟨Nat.le_refl _, fun _ _ => rfl, fun b l h => (by cases h), fun b l h => (by cases h), fun b b' blk h => (by rcases h with ⟨_, _, h⟩ | h <;> cases h), fun b blk h => (by rcases h with ⟨_, _, h⟩ | h <;> cases h), fun _ _ => rfl⟩

/-- a closed call. -/
theorem closed_calls {P : Program} {call : Callee} {id : FuncId} {v : Value} {h' : H} (w : World) (hc : CallOK P w call) (hr : call id [] ⟨0, .leaf⟩ = some (.ok (.lit v), h')) : Calls P id #[] w fun e w' => e = .returned v ∧ Same w w' := by
  refine Calls.mono (hc.calls id [] _ _ _ hr (fun _ => none) w #[] LRel.nil (nothing_rel w) (fun _ _ _ => rfl)) ?_
  intro e w' he
  cases e with
  | returned x =>
    obtain ⟨u, σ', h1, h2, h3, h4⟩ := he
    cases h1
    obtain rfl := litV_rel h2
    exact ⟨rfl, h3.size, h3.old, h4.rest⟩
  | panicked ch => obtain ⟨u, σ', x, h1, _⟩ := he; cases h1
  | outgrown => exact he.elim

theorem Same.wrel {σ : Sg} {m w w' : World} {h : H} (s : Same w w') (hw : WRel σ m h w) : WRel σ m h w' ∧ Good σ σ h h w w' := by
  have hl : ∀ {blk off size l}, Lies σ m w blk off size l → (blk < w.heap.size) → Lies σ m w' blk off size l := fun h1 h2 => h1.ext (Ext.refl _ 0 0) (s.old _ h2)
  refine ⟨⟨Nat.le_trans hw.size s.size, fun i hi => by rw [s.old i (Nat.lt_of_lt_of_le hi hw.size)]; exact hw.old i hi, ?_, ?_, hw.inj, fun b blk ht => ⟨(hw.bound b blk ht).1, Nat.lt_of_lt_of_le (hw.bound b blk ht).2 s.size⟩, hw.fresh⟩,
    ⟨Nat.le_refl _, Ext.refl _ _ _, s.size, fun blk hb _ => s.old blk hb, fun b blk hn ht => by rcases ht with ⟨o, s, e⟩ | e <;> simp [hn] at e, fun _ hn _ => hn, s.rest, fun _ _ _ h => h⟩⟩
  · intro b l hg
    rcases hw.cells b l hg with h1 | ⟨blk, off, size, h1, h2⟩
    · exact .inl h1
    · exact .inr ⟨blk, off, size, h1, hl h2 (hw.bound b blk (.inl ⟨_, _, h1⟩)).2⟩
  · intro b l hg
    rcases hw.maps b l hg with h1 | ⟨blk, h1, h2⟩
    · exact .inl h1
    · exact .inr ⟨blk, h1, h2.ext (Ext.refl _ 0 0) (s.old _ (hw.bound b blk (.inr h1)).2)⟩

/-- a function without arguments whose result is known. -/
def constG (v : Value) (args : List V) (h : H) : Option (Ret × H) :=
  match args with
  | [] => some (.ok (.lit v), h)
  | _ => none

theorem const_ok {P : Program} {m : World} {id : FuncId} {v : Value} (he : Enters P id) (hc : ∀ w, Calls P id #[] w fun e w' => e = .returned v ∧ Same w w') : CallOK P m (fun id' vs h => cond (Nat.beq id id') (constG v vs h) none) := by
  have key : ∀ vs h r h', constG v vs h = some (r, h') → vs = [] ∧ r = .ok (.lit v) ∧ h' = h := by
    intro vs h r h' hs
    unfold constG at hs
    split at hs
    · cases hs; exact ⟨rfl, rfl, rfl⟩
    · cases hs
  refine ⟨?_, ?_, ?_⟩
  · intro id' vs h r h' hs
    obtain ⟨_, hs⟩ := condN_some hs
    obtain ⟨_, _, rfl⟩ := key _ _ _ _ hs
    exact Nat.le_refl _
  · intro id' vs h r h' hs
    obtain ⟨hid, _⟩ := condN_some hs
    rw [← Nat.eq_of_beq_eq_true hid]; exact he
  · intro id' vs h r h' hs σ w args ha hw hf
    obtain ⟨hid, hs2⟩ := condN_some hs
    obtain rfl := Nat.eq_of_beq_eq_true hid
    obtain ⟨rfl, rfl, rfl⟩ := key _ _ _ _ hs2
    rw [LRel.nil_iff] at ha
    have : args = #[] := by cases args; simp_all
    subst this
    refine Calls.mono (hc w) ?_
    rintro e w' ⟨rfl, hsame⟩
    obtain ⟨g1, g2⟩ := hsame.wrel hw
    exact ⟨.lit v, σ, rfl, by simp only [VRel], g1, g2⟩

end A
end Go.Proofs.YtcohlhplpogopaaGreat

namespace Go.Proofs.YtcohlhplpogopaaGreat
namespace A

/-- the check of reads, as a proposition. -/
def CkRecP (r : Rec) : List H → Prop
  | [] => True
  | h :: l => (r.lo ≤ l.length ∧ l.length ≤ r.hi → ∃ h', stepO r.o r.tm h = some (r.v, h')) ∧ CkRecP r l
def CkP (hs : List H) : List Rec → Prop
  | [] => True
  | r :: rs => CkRecP r hs ∧ CkP hs rs
noncomputable def ckC : Ck := fun hs rs => @decide (CkP hs rs) (Classical.propDecidable _)

theorem CkP_get {hs : List H} : ∀ {rs : List Rec}, CkP hs rs → ∀ r, r ∈ rs → CkRecP r hs
  | [], _, r, hr => by cases hr
  | r0 :: rs, h, r, hr => by
    rcases List.mem_cons.1 hr with rfl | hr
    · exact h.1
    · exact CkP_get h.2 r hr

theorem CkRecP_get {r : Rec} : ∀ {hs : List H}, CkRecP r hs → ∀ k h, hs.reverse[k]? = some h → r.lo ≤ k → k ≤ r.hi → ∃ h', stepO r.o r.tm h = some (r.v, h')
  | [], _, k, h, hk, _, _ => by simp at hk
  | h0 :: hs, hc, k, h, hk, h1, h2 => by
    rw [List.reverse_cons] at hk
    by_cases e : k < hs.reverse.length
    · rw [List.getElem?_append_left e] at hk
      exact CkRecP_get hc.2 k h hk h1 h2
    · rw [List.length_reverse] at e
      rw [List.getElem?_append_right (by simpa using e)] at hk
      have hke : k = hs.length := by
        have := (List.getElem?_eq_some_iff.1 hk).1
        simp at this; omega
      subst hke
      simp at hk
      subst hk
      exact hc.1 ⟨h1, h2⟩

theorem ckC_ok : CkOK ckC := by
  intro hs rs hc r hr k h hk h1 h2
  have : CkP hs rs := @of_decide_eq_true _ (Classical.propDecidable _) hc
  exact CkRecP_get (CkP_get this r hr) k h hk h1 h2
theorem ckC_true {hs : List H} {rs : List Rec} (h : CkP hs rs) : ckC hs rs = true := @decide_eq_true _ (Classical.propDecidable _) h

/- what runs come to, for all fuel that is enough -/
section
variable (sp : Sp) (fs : Fs)

def Runs (id : FuncId) (vs : List V) (h : H) (r : Ret) (h' : H) : Prop := ∃ n0, ∀ n, n0 ≤ n → evF ckC sp fs n id vs h = some (r, h')
def RunsC (c : C) (st : St) (e : E) (st' : St) : Prop := ∃ n0, ∀ n, n0 ≤ n → evC c ckC (evF ckC sp fs n) n st = some (e, st')
def RunsS (o : CO) (st : St) (out : Out) : Prop := ∃ n0, ∀ n, n0 ≤ n → stepC (evF ckC sp fs n) o st = some out
def RunsO (l : List CO) (st : St) (e : E) (st' : St) : Prop := ∃ n0, ∀ n, n0 ≤ n → runOps l (evF ckC sp fs n) st = some (e, st')
def RunsD (l : List (Part × CO)) (st : St) (hs : List H) (rs : List Rec) (o : OutD) : Prop := ∃ n0, ∀ n, n0 ≤ n → runD l (evF ckC sp fs n) st hs rs = some o

/-- what a call comes to. -/
def WF (id : FuncId) (vs : List V) (h : H) (Q : Ret → H → Prop) : Prop := ∃ r h', Runs sp fs id vs h r h' ∧ Q r h'

def kRet (d : Option Nat) (st : St) (K : St → Prop) (Kp : V → St → Prop) (r : Ret) (h' : H) : Prop :=
  match r with
  | .ok v => K ⟨setD d v st.tm, st.df, h'⟩
  | .pan v => Kp v ⟨st.tm, st.df, h'⟩
def kVal (d : Option Nat) (st : St) (K : St → Prop) (o : Option (V × H)) : Prop :=
  match o with
  | some (v, h') => K ⟨setD d v st.tm, st.df, h'⟩
  | none => False
def kCall (d : Option Nat) (st : St) (K : St → Prop) (Kp : V → St → Prop) (t : Option (FuncId × List V)) : Prop :=
  match t with
  | some (id, vs) => WF sp fs id vs st.h (kRet d st K Kp)
  | none => False
def kOut (K : St → Prop) (o : Option Out) : Prop :=
  match o with
  | some (.go st) => K st
  | _ => False
def kPan (st : St) (Kp : V → St → Prop) (x : V) : Prop :=
  match x with
  | .ifc t v => Kp (.ifc t v) st
  | _ => False

def WAct (o : O) (d : Option Nat) (st : St) (K : St → Prop) (Kp : V → St → Prop) : Prop :=
  match o with
  | .call f args => kCall sp fs d st K Kp (target (f.ev st.tm) (evs args st.tm))
  | .inv _ _ _ => False
  | .defer f args => kOut K (deferV d st (f.ev st.tm) (evs args st.tm))
  | .panic x => kPan st Kp (x.ev st.tm)
  | o => kVal d st K (stepO o st.tm st.h)
def kWant (o : CO) (st : St) (K : St → Prop) (Kp : V → St → Prop) (w : Option Bool) : Prop :=
  match w with
  | some true => WAct sp fs o.o o.d st K Kp
  | some false => K ⟨setD o.d undefV st.tm, st.df, st.h⟩
  | none => False
def WStep (o : CO) (st : St) (K : St → Prop) (Kp : V → St → Prop) : Prop := kWant sp fs o st K Kp (wanted o.g st.tm)

def WOps : List CO → St → (E → St → Prop) → Prop
  | [], st, Q => Q .nor st
  | o :: l, st, Q => WStep sp fs o st (fun st' => WOps l st' Q) (fun v st' => Q (.pan v) st')

def kRead (d : Option Nat) (tm : TM) (lo hi : Nat) (o : O) (K : TM → Rec → Prop) (r : Option (V × H)) : Prop :=
  match r with
  | some (v, _) => K (setD d v tm) ⟨tm, lo, hi, o, v⟩
  | none => False
def kReadW (o : CO) (st : St) (lo hi : Nat) (K : TM → Rec → Prop) (K0 : TM → Prop) (w : Option Bool) : Prop :=
  match w with
  | some true => kRead o.d st.tm lo hi o.o K (stepO o.o st.tm st.h)
  | some false => K0 (setD o.d undefV st.tm)
  | none => False

def WDs : List (Part × CO) → St → List H → List Rec → (St → List H → List Rec → Prop) → (V → St → List H → List Rec → Prop) → Prop
  | [], st, hs, rs, K, _ => K st (st.h :: hs) rs
  | (.loud last [], o) :: l, st, hs, rs, K, Kp => WStep sp fs o st (fun st' => WDs l st' (st.h :: hs) rs K Kp) (fun v st' => last = true ∧ Kp v st' (st.h :: hs) rs)
  | (.loud _ (_ :: _), _) :: _, _, _, _, _, _ => False
  | (.pure, o) :: l, st, hs, rs, K, Kp => WStep sp fs o st (fun st' => WDs l st' hs rs K Kp) (fun _ _ => False)
  | (.made, o) :: l, st, hs, rs, K, Kp => WStep sp fs o st (fun st' => WDs l st' hs rs K Kp) (fun _ _ => False)
  | (.read lo hi, o) :: l, st, hs, rs, K, Kp => kReadW o st lo hi (fun tm r => WDs l ⟨tm, st.df, st.h⟩ hs (r :: rs) K Kp) (fun tm => WDs l ⟨tm, st.df, st.h⟩ hs rs K Kp) (wanted o.g st.tm)

/-- what code comes to. -/
def WR (c : C) (st : St) (Q : E → St → Prop) : Prop := ∃ e st', RunsC sp fs c st e st' ∧ Q e st'

def kSeq (K : St → Prop) (Q : E → St → Prop) (e : E) (st : St) : Prop :=
  match e with
  | .nor => K st
  | e => Q e st
def kBlock (id : Nat) (Q : E → St → Prop) (e : E) (st : St) : Prop :=
  match e with
  | .ex i => if i = id then Q .nor st else Q (.ex i) st
  | e => Q e st
def kCond (x : V) (A B : Prop) : Prop :=
  match x with
  | .lit (.bool true) => A
  | .lit (.bool false) => B
  | _ => False

def WC : C → St → (E → St → Prop) → Prop
  | .skip, st, Q => Q .nor st
  | .reg l, st, Q => WOps sp fs l st Q
  | .regD l, st, Q => WDs sp fs l st [] [] (fun st' hs rs => CkP hs rs ∧ Q .nor st') (fun v st' hs rs => CkP hs rs ∧ Q (.pan v) ⟨forget l st.tm, st'.df, st'.h⟩)
  | .seq a b, st, Q => WC a st (kSeq (fun st' => WC b st' Q) Q)
  | .cond x a b, st, Q => kCond (x.ev st.tm) (WC a st Q) (WC b st Q)
  | .block id c, st, Q => WC c st (kBlock id Q)
  | .loop c, st, Q => WR sp fs (.loop c) st Q
  | .exit id, st, Q => Q (.ex id) st
  | .ret, st, Q => Q .ret st

end

section
variable {sp : Sp} {fs : Fs}

theorem WF.mono {id : FuncId} {vs : List V} {h : H} {Q Q' : Ret → H → Prop} (hw : WF sp fs id vs h Q) (hq : ∀ r h', Q r h' → Q' r h') : WF sp fs id vs h Q' := by
  obtain ⟨r, h', h1, h2⟩ := hw; exact ⟨r, h', h1, hq r h' h2⟩

theorem WAct_sound {o : O} {d : Option Nat} {st : St} {K : St → Prop} {Kp : V → St → Prop} (h : WAct sp fs o d st K Kp) :
    ∃ out, (∃ n0, ∀ n, n0 ≤ n → act o (evF ckC sp fs n) d st = some out) ∧ (match out with | .go st' => K st' | .pan v st' => Kp v st') := by
  have quiet : loudO o = false → kVal d st K (stepO o st.tm st.h) → ∃ out, (∃ n0, ∀ n, n0 ≤ n → act o (evF ckC sp fs n) d st = some out) ∧ (match out with | .go st' => K st' | .pan v st' => Kp v st') := by
    intro hl hk
    have ha : ∀ call, act o call d st = outV d st (stepO o st.tm st.h) := fun call =>
      act_silent (fun f l e => by rw [e] at hl; cases hl) (fun t x l e => by rw [e] at hl; cases hl) (fun f l e => by rw [e] at hl; cases hl) (fun x e => by rw [e] at hl; cases hl) call d st
    generalize stepO o st.tm st.h = r at hk ha
    cases r with
    | none => exact hk.elim
    | some r => exact ⟨.go ⟨setD d r.1 st.tm, st.df, r.2⟩, ⟨0, fun n _ => ha _⟩, hk⟩
  cases o with
  | call f args =>
    have h' : kCall sp fs d st K Kp (target (f.ev st.tm) (evs args st.tm)) := h
    have ha : ∀ call, act (.call f args) call d st = callT call d st (target (f.ev st.tm) (evs args st.tm)) := fun _ => rfl
    generalize target (f.ev st.tm) (evs args st.tm) = t at h' ha
    cases t with
    | none => exact h'.elim
    | some p =>
      obtain ⟨r, h1, ⟨n0, hr⟩, hq⟩ : WF sp fs p.1 p.2 st.h (kRet d st K Kp) := h'
      cases r with
      | ok v => exact ⟨.go ⟨setD d v st.tm, st.df, h1⟩, ⟨n0, fun n hn => by rw [ha]; show outR d st (evF ckC sp fs n p.1 p.2 st.h) = _; rw [hr n hn]; rfl⟩, hq⟩
      | pan v => exact ⟨.pan v ⟨st.tm, st.df, h1⟩, ⟨n0, fun n hn => by rw [ha]; show outR d st (evF ckC sp fs n p.1 p.2 st.h) = _; rw [hr n hn]; rfl⟩, hq⟩
  | inv t x l => exact h.elim
  | defer f args =>
    have h' : kOut K (deferV d st (f.ev st.tm) (evs args st.tm)) := h
    have ha : ∀ call, act (.defer f args) call d st = deferV d st (f.ev st.tm) (evs args st.tm) := fun _ => rfl
    generalize deferV d st (f.ev st.tm) (evs args st.tm) = r at h' ha
    cases r with
    | none => exact h'.elim
    | some r =>
      cases r with
      | go st' => exact ⟨.go st', ⟨0, fun n _ => ha _⟩, h'⟩
      | pan v st' => exact h'.elim
  | panic x =>
    have h' : kPan st Kp (x.ev st.tm) := h
    have ha : ∀ call, act (.panic x) call d st = panicV st (x.ev st.tm) := fun _ => rfl
    generalize x.ev st.tm = xv at h' ha
    cases xv <;> first | exact h'.elim | skip
    rename_i t v
    exact ⟨.pan (.ifc t v) st, ⟨0, fun n _ => ha _⟩, h'⟩
  | _ => exact quiet rfl h

theorem WStep_sound {o : CO} {st : St} {K : St → Prop} {Kp : V → St → Prop} (h : WStep sp fs o st K Kp) : ∃ out, RunsS sp fs o st out ∧ (match out with | .go st' => K st' | .pan v st' => Kp v st') := by
  unfold WStep at h
  generalize hw : wanted o.g st.tm = w at h
  have hs : ∀ call, stepC call o st = stepW call o st w := fun call => by unfold stepC; rw [hw]
  cases w with
  | none => exact h.elim
  | some b =>
    cases b with
    | true =>
      obtain ⟨out, ⟨n0, h1⟩, h2⟩ := WAct_sound (show WAct sp fs o.o o.d st K Kp from h)
      exact ⟨out, ⟨n0, fun n hn => by rw [hs]; exact h1 n hn⟩, h2⟩
    | false => exact ⟨.go ⟨setD o.d undefV st.tm, st.df, st.h⟩, ⟨0, fun n _ => by rw [hs]; rfl⟩, h⟩

theorem WOps_sound : ∀ {l : List CO} {st : St} {Q : E → St → Prop}, WOps sp fs l st Q → ∃ e st', RunsO sp fs l st e st' ∧ Q e st'
  | [], st, Q, h => ⟨.nor, st, ⟨0, fun _ _ => rfl⟩, h⟩
  | o :: l, st, Q, h => by
    obtain ⟨out, ⟨n0, h1⟩, h2⟩ := WStep_sound (show WStep sp fs o st (fun st' => WOps sp fs l st' Q) (fun v st' => Q (.pan v) st') from h)
    cases out with
    | go st1 =>
      obtain ⟨e, st', ⟨n1, h3⟩, h4⟩ := WOps_sound (show WOps sp fs l st1 Q from h2)
      refine ⟨e, st', ⟨max n0 n1, fun n hn => ?_⟩, h4⟩
      rw [runOps_cons, h1 n (by omega)]
      exact h3 n (by omega)
    | pan v st1 =>
      refine ⟨.pan v, st1, ⟨n0, fun n hn => ?_⟩, h2⟩
      rw [runOps_cons, h1 n hn]; rfl

theorem stepHW_nil (call : Callee) (o : CO) (st : St) : stepHW [] call o st (wanted o.g st.tm) = stepC call o st := by
  unfold stepC stepHW stepW
  have hn : nums [] st.tm = [] := rfl
  have hb : ∀ o : Option Out, backO [] st.h o = o := by
    intro o
    cases o with
    | none => rfl
    | some o => cases o <;> rfl
  split
  · rw [hn, hb]; rfl
  · rfl
  · rfl

theorem WDs_sound : ∀ {l : List (Part × CO)} {st : St} {hs : List H} {rs : List Rec} {K : St → List H → List Rec → Prop} {Kp : V → St → List H → List Rec → Prop}, WDs sp fs l st hs rs K Kp →
    ∃ o, RunsD sp fs l st hs rs o ∧ (match o with | .go st' hs' rs' => K st' hs' rs' | .pan v st' hs' rs' => Kp v st' hs' rs')
  | [], st, hs, rs, K, Kp, h => ⟨.go st (st.h :: hs) rs, ⟨0, fun _ _ => rfl⟩, h⟩
  | (.loud last [], o) :: l, st, hs, rs, K, Kp, h => by
    have h' : WStep sp fs o st (fun st' => WDs sp fs l st' (st.h :: hs) rs K Kp) (fun v st' => last = true ∧ Kp v st' (st.h :: hs) rs) := by simpa only [WDs] using h
    obtain ⟨out, ⟨n0, h1⟩, h2⟩ := WStep_sound h'
    have e : ∀ n, runD ((Part.loud last [], o) :: l) (evF ckC sp fs n) st hs rs = dLoud last (runD l) (evF ckC sp fs n) st.h hs rs (stepC (evF ckC sp fs n) o st) := by
      intro n
      rw [← stepHW_nil]; rfl
    cases out with
    | go st1 =>
      obtain ⟨o', ⟨n1, h3⟩, h4⟩ := WDs_sound (show WDs sp fs l st1 (st.h :: hs) rs K Kp from h2)
      exact ⟨o', ⟨max n0 n1, fun n hn => by rw [e, h1 n (by omega)]; exact h3 n (by omega)⟩, h4⟩
    | pan v st1 =>
      obtain ⟨rfl, h2⟩ : last = true ∧ Kp v st1 (st.h :: hs) rs := h2
      exact ⟨.pan v st1 (st.h :: hs) rs, ⟨n0, fun n hn => by rw [e, h1 n hn]; rfl⟩, h2⟩
  | (.loud _ (_ :: _), _) :: _, st, hs, rs, K, Kp, h => by simp only [WDs] at h
  | (.pure, o) :: l, st, hs, rs, K, Kp, h => by
    have h' : WStep sp fs o st (fun st' => WDs sp fs l st' hs rs K Kp) (fun _ _ => False) := by simpa only [WDs] using h
    obtain ⟨out, ⟨n0, h1⟩, h2⟩ := WStep_sound h'
    cases out with
    | go st1 =>
      obtain ⟨o', ⟨n1, h3⟩, h4⟩ := WDs_sound (show WDs sp fs l st1 hs rs K Kp from h2)
      refine ⟨o', ⟨max n0 n1, fun n hn => ?_⟩, h4⟩
      show dSilent (runD l) (evF ckC sp fs n) hs rs (stepC (evF ckC sp fs n) o st) = _
      rw [h1 n (by omega)]; exact h3 n (by omega)
    | pan v st1 => exact h2.elim
  | (.made, o) :: l, st, hs, rs, K, Kp, h => by
    have h' : WStep sp fs o st (fun st' => WDs sp fs l st' hs rs K Kp) (fun _ _ => False) := by simpa only [WDs] using h
    obtain ⟨out, ⟨n0, h1⟩, h2⟩ := WStep_sound h'
    cases out with
    | go st1 =>
      obtain ⟨o', ⟨n1, h3⟩, h4⟩ := WDs_sound (show WDs sp fs l st1 hs rs K Kp from h2)
      refine ⟨o', ⟨max n0 n1, fun n hn => ?_⟩, h4⟩
      show dSilent (runD l) (evF ckC sp fs n) hs rs (stepC (evF ckC sp fs n) o st) = _
      rw [h1 n (by omega)]; exact h3 n (by omega)
    | pan v st1 => exact h2.elim
  | (.read lo hi, o) :: l, st, hs, rs, K, Kp, h => by
    have h' : kReadW o st lo hi (fun tm r => WDs sp fs l ⟨tm, st.df, st.h⟩ hs (r :: rs) K Kp) (fun tm => WDs sp fs l ⟨tm, st.df, st.h⟩ hs rs K Kp) (wanted o.g st.tm) := by simpa only [WDs] using h
    have e : ∀ n, runD ((Part.read lo hi, o) :: l) (evF ckC sp fs n) st hs rs = dRead (runD l) (evF ckC sp fs n) lo hi o st hs rs (wanted o.g st.tm) := fun n => rfl
    generalize wanted o.g st.tm = w at h' e
    cases w with
    | none => exact h'.elim
    | some b =>
      cases b with
      | false =>
        obtain ⟨o', ⟨n1, h3⟩, h4⟩ := WDs_sound (show WDs sp fs l ⟨setD o.d undefV st.tm, st.df, st.h⟩ hs rs K Kp from h')
        exact ⟨o', ⟨n1, fun n hn => by rw [e]; exact h3 n hn⟩, h4⟩
      | true =>
        have h2 : kRead o.d st.tm lo hi o.o (fun tm r => WDs sp fs l ⟨tm, st.df, st.h⟩ hs (r :: rs) K Kp) (stepO o.o st.tm st.h) := h'
        have e2 : ∀ n, runD ((Part.read lo hi, o) :: l) (evF ckC sp fs n) st hs rs = dReadV (runD l) (evF ckC sp fs n) lo hi o st hs rs (stepO o.o st.tm st.h) := fun n => e n
        generalize stepO o.o st.tm st.h = r at h2 e2
        cases r with
        | none => exact h2.elim
        | some r =>
          obtain ⟨o', ⟨n1, h3⟩, h4⟩ := WDs_sound (show WDs sp fs l ⟨setD o.d r.1 st.tm, st.df, st.h⟩ hs (⟨st.tm, lo, hi, o.o, r.1⟩ :: rs) K Kp from h2)
          exact ⟨o', ⟨n1, fun n hn => by rw [e2]; exact h3 n hn⟩, h4⟩

theorem WC_sound : ∀ {c : C} {st : St} {Q : E → St → Prop}, WC sp fs c st Q → WR sp fs c st Q
  | .skip, st, Q, h => ⟨.nor, st, ⟨0, fun _ _ => rfl⟩, h⟩
  | .reg l, st, Q, h => by
    obtain ⟨e, st', h1, h2⟩ := WOps_sound (show WOps sp fs l st Q from h)
    exact ⟨e, st', h1, h2⟩
  | .regD l, st, Q, h => by
    obtain ⟨o, ⟨n0, h1⟩, h2⟩ := WDs_sound (show WDs sp fs l st [] [] (fun st' hs rs => CkP hs rs ∧ Q .nor st') (fun v st' hs rs => CkP hs rs ∧ Q (.pan v) ⟨forget l st.tm, st'.df, st'.h⟩) from h)
    cases o with
    | go st' hs rs =>
      obtain ⟨h3, h4⟩ : CkP hs rs ∧ Q .nor st' := h2
      refine ⟨.nor, st', ⟨n0, fun n hn => ?_⟩, h4⟩
      show regR ckC l st.tm (runD l (evF ckC sp fs n) st [] []) = _
      rw [h1 n hn]
      show cond (ckC hs rs) _ _ = _
      rw [ckC_true h3]; rfl
    | pan v st' hs rs =>
      obtain ⟨h3, h4⟩ : CkP hs rs ∧ Q (.pan v) ⟨forget l st.tm, st'.df, st'.h⟩ := h2
      refine ⟨.pan v, _, ⟨n0, fun n hn => ?_⟩, h4⟩
      show regR ckC l st.tm (runD l (evF ckC sp fs n) st [] []) = _
      rw [h1 n hn]
      show cond (ckC hs rs) _ _ = _
      rw [ckC_true h3]; rfl
  | .seq a b, st, Q, h => by
    obtain ⟨e, st1, ⟨n0, h1⟩, h2⟩ := WC_sound (show WC sp fs a st (kSeq (fun st' => WC sp fs b st' Q) Q) from h)
    by_cases he : e = .nor
    · subst he
      obtain ⟨e', st', ⟨n1, h3⟩, h4⟩ := WC_sound (show WC sp fs b st1 Q from h2)
      refine ⟨e', st', ⟨max n0 n1, fun n hn => ?_⟩, h4⟩
      show seqR ckC (evF ckC sp fs n) n (evC b) (evC a ckC (evF ckC sp fs n) n st) = _
      rw [h1 n (by omega)]; exact h3 n (by omega)
    · refine ⟨e, st1, ⟨n0, fun n hn => ?_⟩, ?_⟩
      · show seqR ckC (evF ckC sp fs n) n (evC b) (evC a ckC (evF ckC sp fs n) n st) = _
        rw [h1 n hn]
        cases e <;> first | exact absurd rfl he | rfl
      · cases e <;> first | exact absurd rfl he | exact h2
  | .cond x a b, st, Q, h => by
    have h' : kCond (x.ev st.tm) (WC sp fs a st Q) (WC sp fs b st Q) := h
    have e : ∀ n, evC (.cond x a b) ckC (evF ckC sp fs n) n st = condR (evC a) (evC b) ckC (evF ckC sp fs n) n st (x.ev st.tm) := fun n => rfl
    generalize x.ev st.tm = v at h' e
    unfold kCond at h'
    split at h'
    · obtain ⟨e', st', ⟨n1, h3⟩, h4⟩ := WC_sound h'
      exact ⟨e', st', ⟨n1, fun n hn => by rw [e]; exact h3 n hn⟩, h4⟩
    · obtain ⟨e', st', ⟨n1, h3⟩, h4⟩ := WC_sound h'
      exact ⟨e', st', ⟨n1, fun n hn => by rw [e]; exact h3 n hn⟩, h4⟩
    · exact h'.elim
  | .block id c, st, Q, h => by
    obtain ⟨e, st1, ⟨n0, h1⟩, h2⟩ := WC_sound (show WC sp fs c st (kBlock id Q) from h)
    have eb : ∀ n, n0 ≤ n → evC (.block id c) ckC (evF ckC sp fs n) n st = blockR id (some (e, st1)) := fun n hn => by
      show blockR id (evC c ckC (evF ckC sp fs n) n st) = _
      rw [h1 n hn]
    cases e with
    | ex i =>
      have h2' : if i = id then Q .nor st1 else Q (.ex i) st1 := h2
      by_cases hi : i = id
      · subst hi
        rw [if_pos rfl] at h2'
        refine ⟨.nor, st1, ⟨n0, fun n hn => ?_⟩, h2'⟩
        rw [eb n hn]
        show cond (Nat.beq i i) _ _ = _
        rw [Nat.beq_refl]; rfl
      · rw [if_neg hi] at h2'
        refine ⟨.ex i, st1, ⟨n0, fun n hn => ?_⟩, h2'⟩
        rw [eb n hn]
        show cond (Nat.beq i id) _ _ = _
        rw [show Nat.beq i id = false from Bool.eq_false_iff.2 fun e => hi (Nat.eq_of_beq_eq_true e)]; rfl
    | nor => exact ⟨.nor, st1, ⟨n0, fun n hn => eb n hn⟩, h2⟩
    | ret => exact ⟨.ret, st1, ⟨n0, fun n hn => eb n hn⟩, h2⟩
    | pan v => exact ⟨.pan v, st1, ⟨n0, fun n hn => eb n hn⟩, h2⟩
  | .loop c, st, Q, h => h
  | .exit id, st, Q, h => ⟨.ex id, st, ⟨0, fun _ _ => rfl⟩, h⟩
  | .ret, st, Q, h => ⟨.ret, st, ⟨0, fun _ _ => rfl⟩, h⟩

/-- a loop, by what every round's head satisfies, with a number that every round lowers. -/
theorem WR_loop {c : C} {Q : E → St → Prop} (I : Nat → St → Prop) (hb : ∀ k st, I k st → WC sp fs c st (kSeq (fun st' => ∃ k', k' < k ∧ I k' st') Q)) : ∀ k st, I k st → WR sp fs (.loop c) st Q := by
  have key : ∀ k st, I k st → ∃ e st', (∃ n0, ∀ n, n0 ≤ n → ∀ j, k < j → iter j (evC c ckC (evF ckC sp fs n) n) st = some (e, st')) ∧ Q e st' := by
    intro k
    induction k using Nat.strongRecOn with
    | _ k ih =>
      intro st hI
      obtain ⟨e, st1, ⟨n0, h1⟩, h2⟩ := WC_sound (hb k st hI)
      by_cases he : e = .nor
      · subst he
        obtain ⟨k', hk, hI'⟩ : ∃ k', k' < k ∧ I k' st1 := h2
        obtain ⟨e', st', ⟨n1, h3⟩, h4⟩ := ih k' hk st1 hI'
        refine ⟨e', st', ⟨max n0 n1, fun n hn j hj => ?_⟩, h4⟩
        obtain ⟨j, rfl⟩ : ∃ i, j = i + 1 := ⟨j - 1, by omega⟩
        show iterN _ (iter j) (evC c ckC (evF ckC sp fs n) n st) = _
        rw [h1 n (by omega)]
        exact h3 n (by omega) j (by omega)
      · refine ⟨e, st1, ⟨n0, fun n hn j hj => ?_⟩, ?_⟩
        · obtain ⟨j, rfl⟩ : ∃ i, j = i + 1 := ⟨j - 1, by omega⟩
          show iterN _ (iter j) (evC c ckC (evF ckC sp fs n) n st) = _
          rw [h1 n hn]
          cases e <;> first | exact absurd rfl he | rfl
        · cases e <;> first | exact absurd rfl he | exact h2
  intro k st hI
  obtain ⟨e, st', ⟨n0, h1⟩, h2⟩ := key k st hI
  exact ⟨e, st', ⟨max n0 (k + 1), fun n hn => h1 n (by omega) n (by omega)⟩, h2⟩

/- functions -/
def kDone (res : List R) (Q : Ret → H → Prop) (tm : TM) (h : H) : Prop :=
  match resV res tm h with
  | some l => Q (.ok (oneOf l)) h
  | none => False
/-- the end of a body that defers nothing. -/
def kEnd (res : List R) (Q : Ret → H → Prop) (e : E) (st : St) : Prop :=
  st.df = [] ∧ (match e with
    | .nor => kDone res Q st.tm st.h
    | .ret => kDone res Q st.tm st.h
    | .pan v => Q (.pan v) st.h
    | .ex _ => False)

theorem WF_enter {id : FuncId} {f : F} {vs : List V} {h : H} {Q : Ret → H → Prop} (hs : sp id = none) (hf : fs id = some f) (hp : f.pre = none) (hw : WC sp fs f.body ⟨pad vs, [], h⟩ (kEnd f.res Q)) : WF sp fs id vs h Q := by
  obtain ⟨e, ⟨tm, df, h1⟩, ⟨n0, hr⟩, rfl, hq⟩ := WC_sound hw
  have hev : ∀ n, n0 ≤ n → evF ckC sp fs (n + 1) id vs h = fOut ckC (evF ckC sp fs n) n fs f (some (e, ⟨tm, [], h1⟩)) := by
    intro n hn
    show fSp ckC (evF ckC sp fs n) n fs id vs h (sp id) = _
    rw [hs]
    show fGo ckC (evF ckC sp fs n) n fs vs h (fs id) = _
    rw [hf]
    show fBody ckC (evF ckC sp fs n) n fs f vs h f.pre = _
    rw [hp]
    show fOut ckC (evF ckC sp fs n) n fs f (evC f.body ckC (evF ckC sp fs n) n ⟨pad vs, [], h⟩) = _
    rw [hr n hn]
  have done : kDone f.res Q tm h1 → ∃ l, resV f.res tm h1 = some l ∧ Q (.ok (oneOf l)) h1 := by
    intro hd
    unfold kDone at hd
    split at hd
    · rename_i l hl; exact ⟨l, hl, hd⟩
    · exact hd.elim
  have up : ∀ {r : Ret} {h2 : H}, (∀ n, fOut ckC (evF ckC sp fs n) n fs f (some (e, ⟨tm, [], h1⟩)) = some (r, h2)) → Runs sp fs id vs h r h2 := by
    intro r h2 ho
    refine ⟨n0 + 1, fun n hn => ?_⟩
    obtain ⟨n, rfl⟩ : ∃ i, n = i + 1 := ⟨n - 1, by omega⟩
    rw [hev n (by omega)]; exact ho n
  cases e with
  | nor =>
    obtain ⟨l, hl, hq⟩ := done hq
    exact ⟨_, _, up fun n => by show retL h1 (resV f.res tm h1) = _; rw [hl]; rfl, hq⟩
  | ret =>
    obtain ⟨l, hl, hq⟩ := done hq
    exact ⟨_, _, up fun n => by show retL h1 (resV f.res tm h1) = _; rw [hl]; rfl, hq⟩
  | pan v => exact ⟨_, _, up fun n => rfl, hq⟩
  | ex i => exact hq.elim

/-- a contract that is proved apart. -/
theorem WF_sp {id : FuncId} {g : List V → H → Option (Ret × H)} {vs : List V} {h : H} {r : Ret} {h' : H} {Q : Ret → H → Prop} (hs : sp id = some g) (hg : g vs h = some (r, h')) (hq : Q r h') : WF sp fs id vs h Q := by
  refine ⟨r, h', ⟨1, fun n hn => ?_⟩, hq⟩
  obtain ⟨n, rfl⟩ : ∃ i, n = i + 1 := ⟨n - 1, by omega⟩
  show fSp ckC (evF ckC sp fs n) n fs id vs h (sp id) = _
  rw [hs]; exact hg

/-- from the abstract machine back to the model. -/
theorem calls_of_WF {P : Program} {id : FuncId} {vs : List V} {h : H} {Q : Ret → H → Prop} (hm : P.follows .mixedOrders = true) (hfs : FsOK P fs) {m : World} (hsp : SpOK P m sp) (hw : WF sp fs id vs h Q) {σ : Sg} {w : World} {args : Array Value}
    (ha : LRel σ m vs args.toList) (hwr : WRel σ m h w) (hf : ∀ b, h.next ≤ b → σ b = none) : Calls P id args w fun e w' => ∃ r h', Q r h' ∧ EndR σ m h w r h' e w' := by
  obtain ⟨r, h', ⟨n0, hr⟩, hq⟩ := hw
  refine Calls.mono ((evF_ok hm ckC_ok hfs hsp n0).calls id vs h r h' (hr n0 (Nat.le_refl _)) σ w args ha hwr (fun b h1 _ => hf b h1)) fun e w' he => ⟨r, h', hq, he⟩

end
end A
end Go.Proofs.YtcohlhplpogopaaGreat

namespace Go.Proofs.YtcohlhplpogopaaGreat
namespace A

abbrev int (n : Int) : V := .lit (.int .i64 n)
abbrev bool (b : Bool) : V := .lit (.bool b)
abbrev u8 (n : Int) : V := .lit (.int .u8 n)

section
variable {tm : TM} {h : H}

theorem X.ev_t (n : Nat) : X.ev tm (.t n) = tm.nth n := by rfl
theorem X.ev_c (v : V) : X.ev tm (.c v) = v := by rfl
theorem evs_nil : evs [] tm = [] := by rfl
theorem evs_cons (x : X) (l : List X) : evs (x :: l) tm = x.ev tm :: evs l tm := by rfl
theorem setD_some (d : Nat) (v : V) : setD (some d) v tm = tm.put d v := by rfl
theorem setD_none (v : V) : setD none v tm = tm := by rfl
theorem wanted_none : wanted none tm = some true := by rfl
theorem wanted_some (t : Nat) (w : Bool) : wanted (some (t, w)) tm = wantV (tm.nth t) w := by rfl
theorem wantV_tt : wantV (bool true) true = some true := by rfl
theorem wantV_tf : wantV (bool true) false = some false := by rfl
theorem wantV_ft : wantV (bool false) true = some false := by rfl
theorem wantV_ff : wantV (bool false) false = some true := by rfl
theorem wantV_undef (w : Bool) : wantV undefV w = some false := by rfl
theorem target_fn (id : FuncId) (a b args : List V) : target (.fn (.func id) a b) args = some (id, a ++ args ++ b) := by
  show some (id, appL (appL a args) b) = _
  rw [appL_eq, appL_eq]
theorem pad_eq (l : List V) : pad l = padL l 0 .leaf := by rfl
theorem padL_nil (n : Nat) : padL [] n tm = tm := by rfl
theorem padL_cons (v : V) (l : List V) (n : Nat) : padL (v :: l) n tm = padL l (n + 1) (tm.put n v) := by rfl

theorem stepO_mov (x : X) : stepO (.mov x) tm h = some (x.ev tm, h) := by rfl
theorem stepO_pick (c a b : X) : stepO (.pick c a b) tm h = pickV (c.ev tm) (a.ev tm) (b.ev tm) h := by rfl
theorem stepO_ar (op : BinOp) (x y : X) : stepO (.ar op x y) tm h = okV h (ar op (x.ev tm) (y.ev tm)) := by rfl
theorem stepO_eqB (n : Bool) (x y : X) : stepO (.eqB n x y) tm h = eqBV n (x.ev tm) (y.ev tm) h := by rfl
theorem stepO_eqA (n : Bool) (k : List SK) (x y : X) : stepO (.eqA n k x y) tm h = eqAV n k (x.ev tm) (y.ev tm) h := by rfl
theorem stepO_eqNil (n : Bool) (k : NK) (x : X) : stepO (.eqNil n k x) tm h = cond (isNK k (x.ev tm)) (okB h n (isNil h (x.ev tm))) none := by rfl
theorem stepO_not (x : X) : stepO (.not x) tm h = notV (x.ev tm) h := by rfl
theorem stepO_neg (x : X) : stepO (.neg x) tm h = negV (x.ev tm) h := by rfl
theorem stepO_conv (k : IntKind) (x : X) : stepO (.conv k x) tm h = convV k (x.ev tm) h := by rfl
theorem stepO_bstr (x : X) : stepO (.bstr x) tm h = bstrV (x.ev tm) h := by rfl
theorem stepO_strb (x : X) : stepO (.strb x) tm h = strbV (x.ev tm) h := by rfl
theorem stepO_alloc (z : List V) : stepO (.alloc z) tm h = some (.ptr h.next 0, h.new (.cells z)) := by rfl
theorem stepO_box (x : X) : stepO (.box x) tm h = boxL (x.ev tm).cells h := by rfl
theorem stepO_build (z : List V) (p : List (Nat × Nat × X)) : stepO (.build z p) tm h = okAgg h (fillV p tm z) := by rfl
theorem stepO_lits (e l : Nat) (z : List V) (p : List (Nat × Nat × X)) : stepO (.lits e l z p) tm h = litsL e l (fillV p tm z) h := by rfl
theorem stepO_load (n : Option Nat) (x : X) : stepO (.load n x) tm h = loadV n (x.ev tm) h := by rfl
theorem stepO_store (n : Nat) (a x : X) : stepO (.store n a x) tm h = storeL n (a.ev tm) (x.ev tm).cells h := by rfl
theorem stepO_chk (x : X) : stepO (.chk x) tm h = chkV (x.ev tm) h := by rfl
theorem stepO_fieldA (o : Nat) (x : X) : stepO (.fieldA o x) tm h = fieldAV o (x.ev tm) h := by rfl
theorem stepO_field (o : Nat) (n : Option Nat) (x : X) : stepO (.field o n x) tm h = fieldV o n (x.ev tm) h := by rfl
theorem stepO_idxA (e : Nat) (x i : X) : stepO (.idxA e x i) tm h = idxAV e (x.ev tm) (natOf (i.ev tm)) h := by rfl
theorem stepO_idxS (x i : X) : stepO (.idxS x i) tm h = idxSV (x.ev tm) (natOf (i.ev tm)) h := by rfl
theorem stepO_len (k : NK) (x : X) : stepO (.len k x) tm h = cond (isNK k (x.ev tm)) (lenV (x.ev tm) h) none := by rfl
theorem stepO_app (e b : Nat) (x y : X) : stepO (.app e b x y) tm h = appendV e b (x.ev tm) (y.ev tm) h := by rfl
theorem stepO_copy (e : Nat) (x y : X) : stepO (.copy e x y) tm h = copyV e (x.ev tm) (y.ev tm) h := by rfl
theorem stepO_slice (e : Nat) (x : X) (lo hi : Option X) : stepO (.slice e x lo hi) tm h = sliceXV e (x.ev tm) (bound tm lo 0) (hiOf tm hi) h := by rfl
theorem stepO_sliceS (x : X) (lo hi : Option X) : stepO (.sliceS x lo hi) tm h = sliceSV (x.ev tm) tm lo hi h := by rfl
theorem stepO_makeM : stepO .makeM tm h = some (.map h.next, h.new (.mp [])) := by rfl
theorem stepO_look (s : KK) (z : V) (ok : Bool) (m k : X) : stepO (.look s z ok m k) tm h = lookV s z ok (m.ev tm) (k.ev tm) h := by rfl
theorem stepO_upd (s : KK) (m k v : X) : stepO (.upd s m k v) tm h = updV s (m.ev tm) (k.ev tm) (v.ev tm) h := by rfl
theorem stepO_iface (t : TypeId) (x : X) : stepO (.iface t x) tm h = some (.ifc t (x.ev tm), h) := by rfl
theorem stepO_func (f : Fn) (a b : List X) : stepO (.func f a b) tm h = some (.fn f (evs a tm) (evs b tm), h) := by rfl
theorem stepO_ext (x : X) (i : Nat) : stepO (.ext x i) tm h = extV (x.ev tm) i h := by rfl
theorem stepO_min (x y : X) : stepO (.min x y) tm h = minV (x.ev tm) (y.ev tm) h := by rfl
theorem stepO_max (x y : X) : stepO (.max x y) tm h = maxV (x.ev tm) (y.ev tm) h := by rfl

theorem okV_some' (v : V) : okV h (some v) = some (v, h) := by rfl
theorem okAgg_some' (l : List V) : okAgg h (some l) = some (.agg l, h) := by rfl
theorem pickV_t (a b : V) : pickV (bool true) a b h = some (a, h) := by rfl
theorem pickV_f (a b : V) : pickV (bool false) a b h = some (b, h) := by rfl
theorem notV_b (b : Bool) : notV (bool b) h = some (bool (!b), h) := by rfl
theorem convV_int (k k' : IntKind) (n : Int) : convV k (.lit (.int k' n)) h = some (.lit (.int k (k.wrap n)), h) := by
  show some (litI k (wrapK k n), h) = _
  rw [wrapK_eq]; rfl
theorem negV_int (k : IntKind) (n : Int) : negV (.lit (.int k n)) h = some (.lit (.int k (k.wrap (0 - n))), h) := by
  show some (litI k (wrapK k (Int.sub 0 n)), h) = _
  rw [wrapK_eq]; rfl

/- integers -/
theorem ar_int (op : BinOp) (k : IntKind) (a b : Int) (hs : arShift op = none) : ar op (.lit (.int k a)) (.lit (.int k b)) = arInt op k a b := by
  show arII op k k a b = _
  unfold arII
  rw [hs, show beqK k k = true from by cases k <;> rfl]; rfl
theorem ar_add (k : IntKind) (a b : Int) : ar .add (.lit (.int k a)) (.lit (.int k b)) = some (.lit (.int k (k.wrap (a + b)))) := by
  rw [ar_int _ _ _ _ rfl]; show some (litI k (wrapK k _)) = _; rw [wrapK_eq]; rfl
theorem ar_sub (k : IntKind) (a b : Int) : ar .sub (.lit (.int k a)) (.lit (.int k b)) = some (.lit (.int k (k.wrap (a - b)))) := by
  rw [ar_int _ _ _ _ rfl]; show some (litI k (wrapK k _)) = _; rw [wrapK_eq]; rfl
theorem ar_mul (k : IntKind) (a b : Int) : ar .mul (.lit (.int k a)) (.lit (.int k b)) = some (.lit (.int k (k.wrap (a * b)))) := by
  rw [ar_int _ _ _ _ rfl]; show some (litI k (wrapK k _)) = _; rw [wrapK_eq]; rfl
theorem ar_eql (k : IntKind) (a b : Int) : ar .eql (.lit (.int k a)) (.lit (.int k b)) = some (bool (decide (a = b))) := by
  rw [ar_int _ _ _ _ rfl]; show some (litB (eqI a b)) = _; rw [eqI_eq]; rfl
theorem ar_neq (k : IntKind) (a b : Int) : ar .neq (.lit (.int k a)) (.lit (.int k b)) = some (bool (!decide (a = b))) := by
  rw [ar_int _ _ _ _ rfl]; show some (litB (not (eqI a b))) = _; rw [eqI_eq]; rfl
theorem ar_lss (k : IntKind) (a b : Int) : ar .lss (.lit (.int k a)) (.lit (.int k b)) = some (bool (decide (a < b))) := by
  rw [ar_int _ _ _ _ rfl]; show some (litB (ltI a b)) = _; rw [ltI_eq]; rfl
theorem ar_gtr (k : IntKind) (a b : Int) : ar .gtr (.lit (.int k a)) (.lit (.int k b)) = some (bool (decide (b < a))) := by
  rw [ar_int _ _ _ _ rfl]; show some (litB (ltI b a)) = _; rw [ltI_eq]; rfl
theorem ar_leq (k : IntKind) (a b : Int) : ar .leq (.lit (.int k a)) (.lit (.int k b)) = some (bool (decide (a ≤ b))) := by
  rw [ar_int _ _ _ _ rfl]; show some (litB (not (ltI b a))) = _; rw [leI_eq]; rfl
theorem ar_geq (k : IntKind) (a b : Int) : ar .geq (.lit (.int k a)) (.lit (.int k b)) = some (bool (decide (b ≤ a))) := by
  rw [ar_int _ _ _ _ rfl]; show some (litB (not (ltI a b))) = _; rw [leI_eq]; rfl
theorem natOf_int (k : IntKind) (n : Nat) : natOf (.lit (.int k (n : Int))) = some n := by rfl
theorem natOf_lit (k : IntKind) (n : Nat) : natOf (.lit (.int k (OfNat.ofNat n : Int))) = some n := by rfl

theorem cut_eq (l : List V) (off n : Nat) (hn : off + n ≤ l.length) : cut l off n = some ((l.drop off).take n) := by
  show takeO (dropL l off) n = _
  rw [dropL_eq]
  exact takeO_of _ _ (by rw [List.length_drop]; omega)
theorem cut_zero (l : List V) (off : Nat) : cut l off 0 = some [] := by
  show takeO (dropL l off) 0 = _
  rw [takeO_of _ _ (Nat.zero_le _)]; rfl

/- memory -/
theorem loadV_one (p : V) : loadV none p h = okV h (h.at1 p) := by rfl
theorem loadV_many (n : Nat) (p : V) : loadV (some n) p h = okAgg h (h.at p n) := by rfl
theorem H.cells_of {b : Nat} {l : List V} (hg : h.get b = some (.cells l)) : h.cells b = some l := by unfold H.cells; rw [hg]; rfl
theorem H.at1_ptr {b off : Nat} {l : List V} (hg : h.get b = some (.cells l)) : h.at1 (.ptr b off) = l[off]? := by
  show nthOO (h.cells b) off = _
  rw [H.cells_of hg]
  exact nthO_eq l off
theorem H.at_ptr {b off n : Nat} {l : List V} (hg : h.get b = some (.cells l)) (hn : off + n ≤ l.length) : h.at (.ptr b off) n = some ((l.drop off).take n) := by
  show cutO (h.cells b) off n = _
  rw [H.cells_of hg]
  exact cut_eq l off n hn
theorem ifHas_get {b : Nat} {o : Obj} {v : V} (hg : h.get b = some o) : ifHas (h.get b) v h = some (v, h) := by rw [hg]; rfl
theorem fieldAV_ptr {b off o : Nat} {l : Obj} (hg : h.get b = some l) : fieldAV o (.ptr b off) h = some (.ptr b (off + o), h) := by
  show ifHas (h.get b) (.ptr b (off + o)) h = _
  rw [hg]; rfl
theorem boxL_ok {l : List V} (hl : allAtoms l = true) : boxL l h = some (.ptr h.next 0, h.new (.cells l)) := by unfold boxL; rw [hl]; rfl

end

/- heaps -/
def HF (h : H) : Prop := ∀ b, h.next ≤ b → h.get b = none
/-- from h to h' only objects of S have changed. -/
structure Upd (S : Nat → Prop) (h h' : H) : Prop where
  le : h.next ≤ h'.next
  same : ∀ b, b < h.next → ¬ S b → h'.get b = h.get b
  fresh : HF h'
abbrev Le (h h' : H) : Prop := Upd (fun _ => False) h h'

theorem Upd.refl {S : Nat → Prop} {h : H} (hf : HF h) : Upd S h h := ⟨Nat.le_refl _, fun _ _ _ => rfl, hf⟩
theorem Upd.trans {S : Nat → Prop} {h h' h'' : H} (g : Upd S h h') (g' : Upd S h' h'') : Upd S h h'' :=
  ⟨Nat.le_trans g.le g'.le, fun b h1 h2 => by rw [g'.same b (Nat.lt_of_lt_of_le h1 g.le) h2, g.same b h1 h2], g'.fresh⟩
theorem Upd.mono {S S' : Nat → Prop} {h h' : H} (g : Upd S h h') (hs : ∀ b, b < h.next → S b → S' b) : Upd S' h h' :=
  ⟨g.le, fun b h1 h2 => g.same b h1 fun h3 => h2 (hs b h1 h3), g.fresh⟩
theorem Upd.new {S : Nat → Prop} {h : H} (hf : HF h) (x : Obj) : Upd S h (h.new x) :=
  ⟨Nat.le_succ _, fun b h1 _ => by rw [H.get_new, if_neg (by omega)], fun b hb => by
    have hb' : h.next + 1 ≤ b := hb
    rw [H.get_new, if_neg (by omega)]; exact hf b (by omega)⟩
theorem Upd.set {S : Nat → Prop} {h : H} (hf : HF h) {b : Nat} (x : Option Obj) (hb : S b) (hlt : b < h.next) : Upd S h (h.set b x) :=
  ⟨Nat.le_refl _, fun c h1 h2 => by rw [H.get_set, if_neg (by rintro rfl; exact h2 hb)], fun c hc => by
    have hc' : h.next ≤ c := hc
    rw [H.get_set, if_neg (by omega)]; exact hf c hc'⟩
theorem Upd.get {S : Nat → Prop} {h h' : H} (g : Upd S h h') {b : Nat} {o : Obj} (hf : HF h) (hg : h.get b = some o) (hs : ¬ S b) : h'.get b = some o := by
  rw [g.same b ?_ hs, hg]
  rcases Nat.lt_or_ge b h.next with h1 | h1
  · exact h1
  · rw [hf b h1] at hg; cases hg
theorem HF.lt {h : H} (hf : HF h) {b : Nat} {o : Obj} (hg : h.get b = some o) : b < h.next := by
  rcases Nat.lt_or_ge b h.next with h1 | h1
  · exact h1
  · rw [hf b h1] at hg; cases hg
theorem HF.new {h : H} (hf : HF h) (x : Obj) : HF (h.new x) := (Upd.new (S := fun _ => False) hf x).fresh
theorem H.get_new_self (h : H) (x : Obj) : (h.new x).get h.next = some x := by rw [H.get_new, if_pos rfl]
theorem H.get_new_ne {h : H} {b : Nat} (x : Obj) (hb : b ≠ h.next) : (h.new x).get b = h.get b := by rw [H.get_new, if_neg hb]
theorem H.get_new_old {h : H} (hf : HF h) {b : Nat} {o : Obj} (hg : h.get b = some o) (x : Obj) : (h.new x).get b = some o := by
  rw [H.get_new, if_neg (Nat.ne_of_lt (hf.lt hg))]; exact hg

/- slices that are read -/
structure Sl (h : H) (es : Nat) (v : V) (cells : List V) (len : Nat) : Prop where
  row : h.row es v = some (cells, len)
  nk : isNK .slc v = true

section
variable {h h' : H} {es len : Nat} {v : V} {cells : List V}

theorem withLen_some {len n : Nat} {o : Option (List V)} {l : List V} (hs : withLen len o = some (l, n)) : o = some l ∧ n = len := by
  unfold withLen at hs; split at hs <;> cases hs; exact ⟨rfl, rfl⟩

/-- what slices there are. -/
theorem Sl.cases (s : Sl h es v cells len) : (∃ b off cap l, v = .slc b off len es cap ∧ h.get b = some (.cells l) ∧ cut l off (len * es) = some cells) ∨ (∃ l, v = .rs l len ∧ cut l 0 (len * es) = some cells) ∨ (v = .lit (.slice none 0 0) ∧ cells = [] ∧ len = 0) := by
  have hr := s.row
  have hk := s.nk
  unfold H.row at hr
  split at hr
  · rename_i b off len' es' cap
    obtain ⟨h1, h2⟩ := condN_some hr
    obtain rfl := Nat.eq_of_beq_eq_true h1
    obtain ⟨h3, rfl⟩ := withLen_some h2
    obtain ⟨l, h4, h5⟩ : ∃ l, h.cells b = some l ∧ cut l off (Nat.mul len es) = some cells := by
      unfold cutO at h3; split at h3
      · exact ⟨_, by assumption, h3⟩
      · cases h3
    exact .inl ⟨b, off, cap, l, rfl, cellsOf_some (show cellsOf (h.get b) = some l from h4), h5⟩
  · obtain ⟨h3, rfl⟩ := withLen_some hr
    exact .inr (.inl ⟨_, rfl, h3⟩)
  · cases hr; exact .inr (.inr ⟨rfl, rfl, rfl⟩)
  · cases hk
  · cases hr

theorem Sl.length (s : Sl h es v cells len) : cells.length = len * es := by
  rcases s.cases with ⟨b, off, cap, l, _, _, h3⟩ | ⟨l, _, h3⟩ | ⟨_, rfl, rfl⟩
  · exact (cut_some h3).2
  · exact (cut_some h3).2
  · simp

theorem Sl.lenV (s : Sl h es v cells len) : cond (isNK .slc v) (A.lenV v h) none = some (int len, h) := by
  rw [s.nk]
  rcases s.cases with ⟨b, off, cap, l, rfl, _, _⟩ | ⟨l, rfl, _⟩ | ⟨rfl, rfl, rfl⟩ <;> rfl

/-- the slice's object, if it has one, is as it was. -/
def Keeps (v : V) (h h' : H) : Prop :=
  match v with
  | .slc b _ _ _ _ => h'.get b = h.get b
  | _ => True

theorem Sl.move (s : Sl h es v cells len) (hk : Keeps v h h') : Sl h' es v cells len := by
  refine ⟨?_, s.nk⟩
  have hr := s.row
  rw [← hr]
  rcases s.cases with ⟨b, off, cap, l, rfl, _, _⟩ | ⟨l, rfl, _⟩ | ⟨rfl, rfl, rfl⟩
  · have hk' : h'.get b = h.get b := hk
    have : h'.cells b = h.cells b := by unfold H.cells; rw [hk']
    show cond _ (withLen _ (cutO (h'.cells b) _ _)) _ = cond _ (withLen _ (cutO (h.cells b) _ _)) _
    rw [this]
  · rfl
  · rfl

theorem Sl.idx (s : Sl h es v cells len) {k : Nat} (hk : k < len) : ∃ p, idxAV es v (some k) h = some (p, h) ∧ h.at p es = some ((cells.drop (k * es)).take es) ∧ (es = 1 → h.at1 p = cells[k]?) := by
  have hle : k * es + es ≤ len * es := by rw [← Nat.succ_mul]; exact Nat.mul_le_mul_right _ hk
  rcases s.cases with ⟨b, off, cap, l, rfl, hg, hc⟩ | ⟨l, rfl, hc⟩ | ⟨_, _, h0⟩
  · obtain ⟨c1, c2⟩ := cut_some hc
    have hl : off + len * es ≤ l.length ∨ len * es = 0 := by
      by_cases h0 : len * es = 0
      · exact .inr h0
      · left; rw [c1, List.length_take, List.length_drop] at c2; omega
    refine ⟨.ptr b (off + k * es), ?_, ?_, ?_⟩
    · show cond (and (Nat.blt k len) (Nat.beq es es)) (ifHas (h.get b) _ h) none = _
      rw [Nat.beq_refl, show Nat.blt k len = true from Nat.ble_eq_true_of_le hk, hg]; rfl
    · by_cases h0 : es = 0
      · subst h0
        show cutO (h.cells b) _ 0 = _
        rw [H.cells_of hg]
        show cut l _ 0 = _
        simp [cut_zero]
      · have hpos : 0 < es := Nat.pos_of_ne_zero h0
        have hne : len * es ≠ 0 := by
          have : 0 < len * es := Nat.mul_pos (by omega) hpos
          omega
        rw [H.at_ptr hg (by omega), c1]
        congr 1
        rw [List.drop_take, List.take_take, List.drop_drop]
        congr 1
        omega
    · rintro rfl
      rw [H.at1_ptr hg, c1, List.getElem?_take, List.getElem?_drop, if_pos (by omega)]
      congr 1; omega
  · obtain ⟨c1, c2⟩ := cut_some hc
    rw [List.drop_zero] at c1
    have hl : len * es ≤ l.length := by
      rw [c1, List.length_take] at c2; omega
    refine ⟨.rp (l.drop (k * es)), ?_, ?_, ?_⟩
    · show cond (Nat.blt k len) (some (V.rp (dropL l (k * es)), h)) none = _
      rw [show Nat.blt k len = true from Nat.ble_eq_true_of_le hk, dropL_eq]; rfl
    · show cut (l.drop (k * es)) 0 es = _
      rw [cut_eq _ _ _ (by rw [List.length_drop]; omega), List.drop_zero, c1, List.drop_take, List.take_take]
      congr 2
      omega
    · rintro rfl
      show nthO (l.drop (k * 1)) 0 = _
      rw [nthO_eq, c1, List.getElem?_take, if_pos (by omega), List.getElem?_drop]
      congr 1; omega
  · omega

end

/- loops over numbers from 0 to below another one -/
def rangeLoop (id0 id1 tc ti tn t' : Nat) (body : C) : C :=
  .block id0 (.loop (.seq (.reg [⟨some tc, .ar .lss (.t ti) (.t tn), none⟩]) (.seq (.cond (.t tc) .skip (.exit id0)) (.seq (.block id1 body) (.reg [⟨some t', .ar .add (.t ti) (.c (.lit (.int .i64 1))), none⟩, ⟨some ti, .mov (.t t'), none⟩])))))

section
variable {sp : Sp} {fs : Fs}

theorem WOps_nil (st : St) (Q : E → St → Prop) : WOps sp fs [] st Q = Q .nor st := by rfl
theorem WOps_cons (o : CO) (l : List CO) (st : St) (Q : E → St → Prop) : WOps sp fs (o :: l) st Q = WStep sp fs o st (fun st' => WOps sp fs l st' Q) (fun v st' => Q (.pan v) st') := by rfl
theorem WStep_eq (o : CO) (st : St) (K : St → Prop) (Kp : V → St → Prop) : WStep sp fs o st K Kp = kWant sp fs o st K Kp (wanted o.g st.tm) := by rfl
theorem kWant_t (o : CO) (st : St) (K : St → Prop) (Kp : V → St → Prop) : kWant sp fs o st K Kp (some true) = WAct sp fs o.o o.d st K Kp := by rfl
theorem kWant_f (o : CO) (st : St) (K : St → Prop) (Kp : V → St → Prop) : kWant sp fs o st K Kp (some false) = K ⟨setD o.d undefV st.tm, st.df, st.h⟩ := by rfl
theorem kVal_some (d : Option Nat) (st : St) (K : St → Prop) (v : V) (h' : H) : kVal d st K (some (v, h')) = K ⟨setD d v st.tm, st.df, h'⟩ := by rfl
theorem kCall_some (d : Option Nat) (st : St) (K : St → Prop) (Kp : V → St → Prop) (id : FuncId) (vs : List V) : kCall sp fs d st K Kp (some (id, vs)) = WF sp fs id vs st.h (kRet d st K Kp) := by rfl
theorem kRet_ok (d : Option Nat) (st : St) (K : St → Prop) (Kp : V → St → Prop) (v : V) (h' : H) : kRet d st K Kp (.ok v) h' = K ⟨setD d v st.tm, st.df, h'⟩ := by rfl
theorem kRet_pan (d : Option Nat) (st : St) (K : St → Prop) (Kp : V → St → Prop) (v : V) (h' : H) : kRet d st K Kp (.pan v) h' = Kp v ⟨st.tm, st.df, h'⟩ := by rfl
theorem kCond_t (A B : Prop) : kCond (bool true) A B = A := by rfl
theorem kCond_f (A B : Prop) : kCond (bool false) A B = B := by rfl
theorem kSeq_nor (K : St → Prop) (Q : E → St → Prop) (st : St) : kSeq K Q .nor st = K st := by rfl
theorem kSeq_ret (K : St → Prop) (Q : E → St → Prop) (st : St) : kSeq K Q .ret st = Q .ret st := by rfl
theorem kSeq_ex (K : St → Prop) (Q : E → St → Prop) (i : Nat) (st : St) : kSeq K Q (.ex i) st = Q (.ex i) st := by rfl
theorem kSeq_pan (K : St → Prop) (Q : E → St → Prop) (v : V) (st : St) : kSeq K Q (.pan v) st = Q (.pan v) st := by rfl
theorem kBlock_nor (id : Nat) (Q : E → St → Prop) (st : St) : kBlock id Q .nor st = Q .nor st := by rfl
theorem kBlock_ret (id : Nat) (Q : E → St → Prop) (st : St) : kBlock id Q .ret st = Q .ret st := by rfl
theorem kBlock_pan (id : Nat) (Q : E → St → Prop) (v : V) (st : St) : kBlock id Q (.pan v) st = Q (.pan v) st := by rfl
theorem kBlock_ex (id i : Nat) (Q : E → St → Prop) (st : St) : kBlock id Q (.ex i) st = if i = id then Q .nor st else Q (.ex i) st := by rfl
theorem kEnd_nil (res : List R) (Q : Ret → H → Prop) (e : E) (tm : TM) (h : H) : kEnd res Q e ⟨tm, [], h⟩ = (match e with | .nor => kDone res Q tm h | .ret => kDone res Q tm h | .pan v => Q (.pan v) h | .ex _ => False) := by
  cases e <;> simp [kEnd]
theorem kEnd_ret1 (t : Nat) (Q : Ret → H → Prop) (tm : TM) (h : H) : kEnd [.tmp t] Q .ret ⟨tm, [], h⟩ = Q (.ok (tm.nth t)) h := by rw [kEnd_nil]; rfl
theorem kEnd_ret2 (t u : Nat) (Q : Ret → H → Prop) (tm : TM) (h : H) : kEnd [.tmp t, .tmp u] Q .ret ⟨tm, [], h⟩ = Q (.ok (.tup [tm.nth t, tm.nth u])) h := by rw [kEnd_nil]; rfl
theorem kEnd_ret3 (t u s : Nat) (Q : Ret → H → Prop) (tm : TM) (h : H) : kEnd [.tmp t, .tmp u, .tmp s] Q .ret ⟨tm, [], h⟩ = Q (.ok (.tup [tm.nth t, tm.nth u, tm.nth s])) h := by rw [kEnd_nil]; rfl
theorem kEnd_ret0 (Q : Ret → H → Prop) (tm : TM) (h : H) : kEnd [] Q .ret ⟨tm, [], h⟩ = Q (.ok (.tup [])) h := by rw [kEnd_nil]; rfl
theorem kEnd_nor0 (Q : Ret → H → Prop) (tm : TM) (h : H) : kEnd [] Q .nor ⟨tm, [], h⟩ = Q (.ok (.tup [])) h := by rw [kEnd_nil]; rfl
theorem kEnd_pan (res : List R) (Q : Ret → H → Prop) (v : V) (tm : TM) (h : H) : kEnd res Q (.pan v) ⟨tm, [], h⟩ = Q (.pan v) h := by rw [kEnd_nil]
theorem WC_skip (st : St) (Q : E → St → Prop) : WC sp fs .skip st Q = Q .nor st := by rfl
theorem WC_reg (l : List CO) (st : St) (Q : E → St → Prop) : WC sp fs (.reg l) st Q = WOps sp fs l st Q := by rfl
theorem WC_regD (l : List (Part × CO)) (st : St) (Q : E → St → Prop) : WC sp fs (.regD l) st Q = WDs sp fs l st [] [] (fun st' hs rs => CkP hs rs ∧ Q .nor st') (fun v st' hs rs => CkP hs rs ∧ Q (.pan v) ⟨forget l st.tm, st'.df, st'.h⟩) := by rfl
theorem WDs_nil (st : St) (hs : List H) (rs : List Rec) (K : St → List H → List Rec → Prop) (Kp : V → St → List H → List Rec → Prop) : WDs sp fs [] st hs rs K Kp = K st (st.h :: hs) rs := by simp only [WDs]
theorem WDs_loud (last : Bool) (o : CO) (l : List (Part × CO)) (st : St) (hs : List H) (rs : List Rec) (K : St → List H → List Rec → Prop) (Kp : V → St → List H → List Rec → Prop) :
    WDs sp fs ((.loud last [], o) :: l) st hs rs K Kp = WStep sp fs o st (fun st' => WDs sp fs l st' (st.h :: hs) rs K Kp) (fun v st' => last = true ∧ Kp v st' (st.h :: hs) rs) := by simp only [WDs]
theorem WDs_pure (o : CO) (l : List (Part × CO)) (st : St) (hs : List H) (rs : List Rec) (K : St → List H → List Rec → Prop) (Kp : V → St → List H → List Rec → Prop) :
    WDs sp fs ((.pure, o) :: l) st hs rs K Kp = WStep sp fs o st (fun st' => WDs sp fs l st' hs rs K Kp) (fun _ _ => False) := by simp only [WDs]
theorem WDs_made (o : CO) (l : List (Part × CO)) (st : St) (hs : List H) (rs : List Rec) (K : St → List H → List Rec → Prop) (Kp : V → St → List H → List Rec → Prop) :
    WDs sp fs ((.made, o) :: l) st hs rs K Kp = WStep sp fs o st (fun st' => WDs sp fs l st' hs rs K Kp) (fun _ _ => False) := by simp only [WDs]
theorem WDs_read (lo hi : Nat) (o : CO) (l : List (Part × CO)) (st : St) (hs : List H) (rs : List Rec) (K : St → List H → List Rec → Prop) (Kp : V → St → List H → List Rec → Prop) :
    WDs sp fs ((.read lo hi, o) :: l) st hs rs K Kp = kReadW o st lo hi (fun tm r => WDs sp fs l ⟨tm, st.df, st.h⟩ hs (r :: rs) K Kp) (fun tm => WDs sp fs l ⟨tm, st.df, st.h⟩ hs rs K Kp) (wanted o.g st.tm) := by simp only [WDs]
theorem kReadW_t (o : CO) (st : St) (lo hi : Nat) (K : TM → Rec → Prop) (K0 : TM → Prop) : kReadW o st lo hi K K0 (some true) = kRead o.d st.tm lo hi o.o K (stepO o.o st.tm st.h) := by rfl
theorem kReadW_f (o : CO) (st : St) (lo hi : Nat) (K : TM → Rec → Prop) (K0 : TM → Prop) : kReadW o st lo hi K K0 (some false) = K0 (setD o.d undefV st.tm) := by rfl
theorem kRead_some (d : Option Nat) (tm : TM) (lo hi : Nat) (o : O) (K : TM → Rec → Prop) (v : V) (h' : H) : kRead d tm lo hi o K (some (v, h')) = K (setD d v tm) ⟨tm, lo, hi, o, v⟩ := by rfl
theorem CkP_nil (hs : List H) : CkP hs [] = True := by rfl
theorem CkP_cons (hs : List H) (r : Rec) (rs : List Rec) : CkP hs (r :: rs) = (CkRecP r hs ∧ CkP hs rs) := by rfl
theorem CkRecP_nil (r : Rec) : CkRecP r [] = True := by rfl
theorem CkRecP_cons (r : Rec) (h : H) (l : List H) : CkRecP r (h :: l) = ((r.lo ≤ l.length ∧ l.length ≤ r.hi → ∃ h', stepO r.o r.tm h = some (r.v, h')) ∧ CkRecP r l) := by rfl
theorem WC_seq (a b : C) (st : St) (Q : E → St → Prop) : WC sp fs (.seq a b) st Q = WC sp fs a st (kSeq (fun st' => WC sp fs b st' Q) Q) := by rfl
theorem WC_cond (x : X) (a b : C) (st : St) (Q : E → St → Prop) : WC sp fs (.cond x a b) st Q = kCond (x.ev st.tm) (WC sp fs a st Q) (WC sp fs b st Q) := by rfl
theorem WC_block (id : Nat) (c : C) (st : St) (Q : E → St → Prop) : WC sp fs (.block id c) st Q = WC sp fs c st (kBlock id Q) := by rfl
theorem WC_exit (id : Nat) (st : St) (Q : E → St → Prop) : WC sp fs (.exit id) st Q = Q (.ex id) st := by rfl
theorem WC_ret (st : St) (Q : E → St → Prop) : WC sp fs .ret st Q = Q .ret st := by rfl

theorem kRet_mono {d : Option Nat} {st : St} {K K' : St → Prop} {Kp Kp' : V → St → Prop} (hk : ∀ st, K st → K' st) (hp : ∀ v st, Kp v st → Kp' v st) (r : Ret) (h' : H) (h : kRet d st K Kp r h') : kRet d st K' Kp' r h' := by
  cases r with
  | ok v => exact hk _ h
  | pan v => exact hp _ _ h
theorem WAct_mono {o : O} {d : Option Nat} {st : St} {K K' : St → Prop} {Kp Kp' : V → St → Prop} (hk : ∀ st, K st → K' st) (hp : ∀ v st, Kp v st → Kp' v st) (h : WAct sp fs o d st K Kp) : WAct sp fs o d st K' Kp' := by
  have val : ∀ o, kVal d st K o → kVal d st K' o := by
    intro o ho
    cases o with
    | none => exact ho
    | some p => exact hk _ ho
  have quiet : loudO o = false → ∀ K Kp, WAct sp fs o d st K Kp = kVal d st K (stepO o st.tm st.h) := by
    intro hl K Kp
    cases o <;> first | rfl | cases hl
  cases hl : loudO o with
  | false => rw [quiet hl] at h ⊢; exact val _ h
  | true =>
  cases o with
  | call f args =>
    have h' : kCall sp fs d st K Kp (target (f.ev st.tm) (evs args st.tm)) := h
    show kCall sp fs d st K' Kp' (target (f.ev st.tm) (evs args st.tm))
    generalize target (f.ev st.tm) (evs args st.tm) = t at h' ⊢
    cases t with
    | none => exact h'
    | some p => exact WF.mono (show WF sp fs p.1 p.2 st.h (kRet d st K Kp) from h') fun r h' hh => kRet_mono hk hp r h' hh
  | inv t x l => exact h
  | defer f args =>
    have h' : kOut K (deferV d st (f.ev st.tm) (evs args st.tm)) := h
    show kOut K' (deferV d st (f.ev st.tm) (evs args st.tm))
    generalize deferV d st (f.ev st.tm) (evs args st.tm) = r at h' ⊢
    cases r with
    | none => exact h'
    | some r =>
      cases r with
      | go st' => exact hk _ h'
      | pan v st' => exact h'
  | panic x =>
    have h' : kPan st Kp (x.ev st.tm) := h
    show kPan st Kp' (x.ev st.tm)
    generalize x.ev st.tm = xv at h' ⊢
    cases xv <;> first | exact h' | exact hp _ _ h'
  | _ => cases hl
theorem WStep_mono {o : CO} {st : St} {K K' : St → Prop} {Kp Kp' : V → St → Prop} (hk : ∀ st, K st → K' st) (hp : ∀ v st, Kp v st → Kp' v st) (h : WStep sp fs o st K Kp) : WStep sp fs o st K' Kp' := by
  rw [WStep_eq] at *
  generalize wanted o.g st.tm = w at *
  cases w with
  | none => exact h
  | some b =>
    cases b with
    | false => exact hk _ h
    | true => exact WAct_mono hk hp h
theorem WOps_mono : ∀ {l : List CO} {st : St} {Q Q' : E → St → Prop}, (∀ e st, Q e st → Q' e st) → WOps sp fs l st Q → WOps sp fs l st Q'
  | [], st, Q, Q', hq, h => hq _ _ h
  | o :: l, st, Q, Q', hq, h => WStep_mono (fun st' hh => WOps_mono hq hh) (fun v st' hh => hq _ _ hh) h
theorem kReadW_mono {o : CO} {st : St} {lo hi : Nat} {K K' : TM → Rec → Prop} {K0 K0' : TM → Prop} (hk : ∀ t r, K t r → K' t r) (h0 : ∀ t, K0 t → K0' t) {w : Option Bool} (h : kReadW o st lo hi K K0 w) : kReadW o st lo hi K' K0' w := by
  cases w with
  | none => exact h
  | some b =>
    cases b with
    | false => exact h0 _ h
    | true =>
      have h' : kRead o.d st.tm lo hi o.o K (stepO o.o st.tm st.h) := h
      show kRead o.d st.tm lo hi o.o K' (stepO o.o st.tm st.h)
      generalize stepO o.o st.tm st.h = r at h' ⊢
      cases r with
      | none => exact h'
      | some r => exact hk _ _ h'
theorem WDs_mono : ∀ {l : List (Part × CO)} {st : St} {hs : List H} {rs : List Rec} {K K' : St → List H → List Rec → Prop} {Kp Kp' : V → St → List H → List Rec → Prop}, (∀ a b c, K a b c → K' a b c) → (∀ v a b c, Kp v a b c → Kp' v a b c) →
    WDs sp fs l st hs rs K Kp → WDs sp fs l st hs rs K' Kp'
  | [], st, hs, rs, K, K', Kp, Kp', hk, hp, h => hk _ _ _ h
  | (.loud last [], o) :: l, st, hs, rs, K, K', Kp, Kp', hk, hp, h => by
    simp only [WDs] at h ⊢
    exact WStep_mono (fun st' hh => WDs_mono hk hp hh) (fun v st' hh => ⟨hh.1, hp _ _ _ _ hh.2⟩) h
  | (.loud _ (_ :: _), _) :: _, st, hs, rs, K, K', Kp, Kp', hk, hp, h => by simp only [WDs] at h
  | (.pure, o) :: l, st, hs, rs, K, K', Kp, Kp', hk, hp, h => by
    simp only [WDs] at h ⊢
    exact WStep_mono (fun st' hh => WDs_mono hk hp hh) (fun v st' hh => hh) h
  | (.made, o) :: l, st, hs, rs, K, K', Kp, Kp', hk, hp, h => by
    simp only [WDs] at h ⊢
    exact WStep_mono (fun st' hh => WDs_mono hk hp hh) (fun v st' hh => hh) h
  | (.read lo hi, o) :: l, st, hs, rs, K, K', Kp, Kp', hk, hp, h => by
    simp only [WDs] at h ⊢
    exact kReadW_mono (fun t r hh => WDs_mono hk hp hh) (fun t hh => WDs_mono hk hp hh) h
theorem kSeq_mono {K K' : St → Prop} {Q Q' : E → St → Prop} (hk : ∀ st, K st → K' st) (hq : ∀ e st, Q e st → Q' e st) (e : E) (st : St) (h : kSeq K Q e st) : kSeq K' Q' e st := by
  cases e <;> first | exact hk _ h | exact hq _ _ h
theorem kBlock_mono {id : Nat} {Q Q' : E → St → Prop} (hq : ∀ e st, Q e st → Q' e st) (e : E) (st : St) (h : kBlock id Q e st) : kBlock id Q' e st := by
  cases e with
  | ex i =>
    rw [kBlock_ex] at *
    split at h
    · rename_i hi; rw [if_pos hi]; exact hq _ _ h
    · rename_i hi; rw [if_neg hi]; exact hq _ _ h
  | _ => exact hq _ _ h
theorem WC_mono : ∀ {c : C} {st : St} {Q Q' : E → St → Prop}, WC sp fs c st Q → (∀ e st, Q e st → Q' e st) → WC sp fs c st Q'
  | .skip, st, Q, Q', h, hq => hq _ _ h
  | .reg l, st, Q, Q', h, hq => WOps_mono hq h
  | .regD l, st, Q, Q', h, hq => by
    rw [WC_regD] at *
    exact WDs_mono (fun a b c hh => ⟨hh.1, hq _ _ hh.2⟩) (fun v a b c hh => ⟨hh.1, hq _ _ hh.2⟩) h
  | .seq a b, st, Q, Q', h, hq => by
    rw [WC_seq] at *
    exact WC_mono h fun e st' hh => kSeq_mono (fun st hh => WC_mono hh hq) hq e st' hh
  | .cond x a b, st, Q, Q', h, hq => by
    rw [WC_cond] at *
    generalize x.ev st.tm = v at *
    unfold kCond at *
    split at h
    · exact WC_mono h hq
    · exact WC_mono h hq
    · exact h.elim
  | .block id c, st, Q, Q', h, hq => by
    rw [WC_block] at *
    exact WC_mono h (kBlock_mono hq)
  | .loop c, st, Q, Q', h, hq => by
    obtain ⟨e, st', h1, h2⟩ := (show WR sp fs (.loop c) st Q from h)
    exact ⟨e, st', h1, hq _ _ h2⟩
  | .exit id, st, Q, Q', h, hq => hq _ _ h
  | .ret, st, Q, Q', h, hq => hq _ _ h

theorem T.nth_leaf' (n : Nat) : T.nth (.leaf : TM) n = undefV := by rfl

theorem wrap_lt {n : Nat} (h : n ≤ 281474976710656) : IntKind.i64.wrap (n : Int) = n := wrap_small h

/-- a loop over numbers: J k holds at the head of round k; behind the body what must hold is J (k + 1) of the state behind the counter's step. -/
theorem WC_range {id0 id1 tc ti tn t' : Nat} {body : C} {N : Nat} {J : Nat → St → Prop} {Q : E → St → Prop} {st : St} (hN : N ≤ 140737488355328) (h01 : id0 ≠ id1)
    (h0 : J 0 st) (hti : ∀ k st, J k st → st.tm.nth ti = int k ∧ st.tm.nth tn = int N)
    (htc : ∀ k st v, J k st → J k ⟨st.tm.put tc v, st.df, st.h⟩) (hne : tc ≠ ti ∧ t' ≠ ti)
    (hexit : ∀ st, J N st → Q .nor st)
    (hbody : ∀ k st, k < N → J k st → WC sp fs body st fun e st' => match e with
      | .nor => st'.tm.nth ti = int k ∧ J (k + 1) ⟨(st'.tm.put t' (int ((k + 1 : Nat) : Int))).put ti (int ((k + 1 : Nat) : Int)), st'.df, st'.h⟩
      | .ex i => if i = id1 then st'.tm.nth ti = int k ∧ J (k + 1) ⟨(st'.tm.put t' (int ((k + 1 : Nat) : Int))).put ti (int ((k + 1 : Nat) : Int)), st'.df, st'.h⟩ else i ≠ id0 ∧ Q (.ex i) st'
      | .ret => Q .ret st'
      | .pan v => Q (.pan v) st') :
    WC sp fs (rangeLoop id0 id1 tc ti tn t' body) st Q := by
  show WR sp fs (.loop _) st (kBlock id0 Q)
  refine WR_loop (fun m st => ∃ k, m = N - k ∧ k ≤ N ∧ J k st) ?_ (N - 0) st ⟨0, rfl, Nat.zero_le _, h0⟩
  rintro m st ⟨k, rfl, hk, hJ⟩
  obtain ⟨e1, e2⟩ := hti k st hJ
  have hJ1 := htc k st
  simp only [WC_seq, WC_reg, WOps_cons, WOps_nil, WStep_eq, wanted_none, kWant_t, WAct, stepO_ar, X.ev_t, X.ev_c, e1, e2, ar_lss, okV_some', kVal_some, setD_some, kSeq_nor, WC_cond, T.nth_put, if_true, WC_block]
  by_cases hlt : k < N
  · have hd : decide ((k : Int) < (N : Int)) = true := by simp; exact hlt
    rw [hd, kCond_t]
    simp only [WC_skip, kSeq_nor]
    have hJ2 := hJ1 (bool true) hJ
    have hb := hbody k _ hlt hJ2
    have hw : IntKind.i64.wrap ((k : Int) + 1) = ((k + 1 : Nat) : Int) := by rw [show (k : Int) + 1 = ((k + 1 : Nat) : Int) from rfl]; exact wrap_lt (by omega)
    refine WC_mono hb ?_
    intro e st' he
    have next : st'.tm.nth ti = int k ∧ J (k + 1) ⟨(st'.tm.put t' (int ((k + 1 : Nat) : Int))).put ti (int ((k + 1 : Nat) : Int)), st'.df, st'.h⟩ →
        WOps sp fs [⟨some t', .ar .add (.t ti) (.c (.lit (.int .i64 1))), none⟩, ⟨some ti, .mov (.t t'), none⟩] st' (kSeq (fun st' => ∃ m', m' < N - k ∧ ∃ k', m' = N - k' ∧ k' ≤ N ∧ J k' st') (kBlock id0 Q)) := by
      rintro ⟨g1, g2⟩
      simp only [WOps_cons, WOps_nil, WStep_eq, wanted_none, kWant_t, WAct, stepO_ar, stepO_mov, X.ev_t, X.ev_c, g1, ar_add, okV_some', kVal_some, setD_some, kSeq_nor, T.nth_put, if_true, hw]
      exact ⟨N - (k + 1), by omega, k + 1, rfl, by omega, g2⟩
    cases e with
    | nor => exact next he
    | ex i =>
      have he' : if i = id1 then _ else i ≠ id0 ∧ Q (.ex i) st' := he
      by_cases hi : i = id1
      · rw [if_pos hi] at he'
        show kBlock id1 _ (.ex i) st'
        rw [kBlock_ex, if_pos hi]
        exact next he'
      · rw [if_neg hi] at he'
        show kBlock id1 _ (.ex i) st'
        rw [kBlock_ex, if_neg hi]
        show kBlock id0 Q (.ex i) st'
        rw [kBlock_ex, if_neg he'.1]
        exact he'.2
    | ret => exact he
    | pan v => exact he
  · have hd : decide ((k : Int) < (N : Int)) = false := by simp; omega
    rw [hd, kCond_f]
    simp only [WC_exit]
    show kBlock id0 Q (.ex id0) _
    rw [kBlock_ex, if_pos rfl]
    have : k = N := by omega
    subst this
    exact hexit _ (hJ1 _ hJ)

end
end A
end Go.Proofs.YtcohlhplpogopaaGreat

namespace Go.Proofs.YtcohlhplpogopaaGreat
namespace A

theorem walk :
  (∀ {sp : Sp} {fs : Fs} (a b : C) (st : St) (Q : E → St → Prop), WC sp fs (C.seq a b) st Q = WC sp fs a st (kSeq (fun st' => WC sp fs b st' Q) Q)) ∧
  (∀ {sp : Sp} {fs : Fs} (l : List CO) (st : St) (Q : E → St → Prop), WC sp fs (C.reg l) st Q = WOps sp fs l st Q) ∧
  (∀ {sp : Sp} {fs : Fs} (x : X) (a b : C) (st : St) (Q : E → St → Prop), WC sp fs (C.cond x a b) st Q = kCond (X.ev (St.tm st) x) (WC sp fs a st Q) (WC sp fs b st Q)) ∧
  (∀ {sp : Sp} {fs : Fs} (id : Nat) (c : C) (st : St) (Q : E → St → Prop), WC sp fs (C.block id c) st Q = WC sp fs c st (kBlock id Q)) ∧
  (∀ {sp : Sp} {fs : Fs} (st : St) (Q : E → St → Prop), WC sp fs C.skip st Q = Q E.nor st) ∧
  (∀ {sp : Sp} {fs : Fs} (id : Nat) (st : St) (Q : E → St → Prop), WC sp fs (C.exit id) st Q = Q (E.ex id) st) ∧
  (∀ {sp : Sp} {fs : Fs} (st : St) (Q : E → St → Prop), WC sp fs C.ret st Q = Q E.ret st) ∧
  (∀ {sp : Sp} {fs : Fs} (o : CO) (l : List CO) (st : St) (Q : E → St → Prop), WOps sp fs (o :: l) st Q = WStep sp fs o st (fun st' => WOps sp fs l st' Q) fun v st' => Q (E.pan v) st') ∧
  (∀ {sp : Sp} {fs : Fs} (st : St) (Q : E → St → Prop), WOps sp fs [] st Q = Q E.nor st) ∧
  (∀ {sp : Sp} {fs : Fs} (o : CO) (st : St) (K : St → Prop) (Kp : V → St → Prop), WStep sp fs o st K Kp = kWant sp fs o st K Kp (wanted (CO.g o) (St.tm st))) ∧
  (∀ {tm : TM}, wanted none tm = some true) ∧
  (∀ {tm : TM} (t : Nat) (w : Bool), wanted (some (t, w)) tm = wantV (T.nth tm t) w) ∧
  (wantV (bool true) true = some true) ∧
  (wantV (bool true) false = some false) ∧
  (wantV (bool false) true = some false) ∧
  (wantV (bool false) false = some true) ∧
  (∀ (w : Bool), wantV undefV w = some false) ∧
  (∀ {sp : Sp} {fs : Fs} (o : CO) (st : St) (K : St → Prop) (Kp : V → St → Prop), kWant sp fs o st K Kp (some true) = WAct sp fs (CO.o o) (CO.d o) st K Kp) ∧
  (∀ {sp : Sp} {fs : Fs} (o : CO) (st : St) (K : St → Prop) (Kp : V → St → Prop), kWant sp fs o st K Kp (some false) = K { tm := setD (CO.d o) undefV (St.tm st), df := St.df st, h := St.h st }) ∧
  (∀ {tm : TM} (n : Nat), X.ev tm (X.t n) = T.nth tm n) ∧
  (∀ {tm : TM} (v : V), X.ev tm (X.c v) = v) ∧
  (∀ {tm : TM} (x : X) (l : List X), evs (x :: l) tm = X.ev tm x :: evs l tm) ∧
  (∀ {tm : TM}, evs [] tm = []) ∧
  (∀ {tm : TM} (d : Nat) (v : V), setD (some d) v tm = T.put tm d v) ∧
  (∀ {tm : TM} (v : V), setD none v tm = tm) ∧
  (∀ (d : Option Nat) (st : St) (K : St → Prop) (v : V) (h' : H), kVal d st K (some (v, h')) = K { tm := setD d v (St.tm st), df := St.df st, h := h' }) ∧
  (∀ {sp : Sp} {fs : Fs} (d : Option Nat) (st : St) (K : St → Prop) (Kp : V → St → Prop) (id : FuncId) (vs : List V), kCall sp fs d st K Kp (some (id, vs)) = WF sp fs id vs (St.h st) (kRet d st K Kp)) ∧
  (∀ (d : Option Nat) (st : St) (K : St → Prop) (Kp : V → St → Prop) (v : V) (h' : H), kRet d st K Kp (Ret.ok v) h' = K { tm := setD d v (St.tm st), df := St.df st, h := h' }) ∧
  (∀ (d : Option Nat) (st : St) (K : St → Prop) (Kp : V → St → Prop) (v : V) (h' : H), kRet d st K Kp (Ret.pan v) h' = Kp v { tm := St.tm st, df := St.df st, h := h' }) ∧
  (∀ (A B : Prop), kCond (bool true) A B = A) ∧
  (∀ (A B : Prop), kCond (bool false) A B = B) ∧
  (∀ (K : St → Prop) (Q : E → St → Prop) (st : St), kSeq K Q E.nor st = K st) ∧
  (∀ (K : St → Prop) (Q : E → St → Prop) (st : St), kSeq K Q E.ret st = Q E.ret st) ∧
  (∀ (K : St → Prop) (Q : E → St → Prop) (i : Nat) (st : St), kSeq K Q (E.ex i) st = Q (E.ex i) st) ∧
  (∀ (K : St → Prop) (Q : E → St → Prop) (v : V) (st : St), kSeq K Q (E.pan v) st = Q (E.pan v) st) ∧
  (∀ (id : Nat) (Q : E → St → Prop) (st : St), kBlock id Q E.nor st = Q E.nor st) ∧
  (∀ (id : Nat) (Q : E → St → Prop) (st : St), kBlock id Q E.ret st = Q E.ret st) ∧
  (∀ (id : Nat) (Q : E → St → Prop) (v : V) (st : St), kBlock id Q (E.pan v) st = Q (E.pan v) st) ∧
  (∀ (id i : Nat) (Q : E → St → Prop) (st : St), kBlock id Q (E.ex i) st = if i = id then Q E.nor st else Q (E.ex i) st) ∧
  (∀ (tm : TM) (i j : Nat) (v : V), T.nth (T.put tm i v) j = if j = i then v else T.nth tm j) ∧
  (∀ (id : FuncId) (a b args : List V), target (V.fn (Fn.func id) a b) args = some (id, a ++ args ++ b)) ∧
  (∀ (t : Nat) (Q : Ret → H → Prop) (tm : TM) (h : H), kEnd [R.tmp t] Q E.ret { tm := tm, df := [], h := h } = Q (Ret.ok (T.nth tm t)) h) ∧
  (∀ (t u : Nat) (Q : Ret → H → Prop) (tm : TM) (h : H), kEnd [R.tmp t, R.tmp u] Q E.ret { tm := tm, df := [], h := h } = Q (Ret.ok (V.tup [T.nth tm t, T.nth tm u])) h) ∧
  (∀ (t u s : Nat) (Q : Ret → H → Prop) (tm : TM) (h : H), kEnd [R.tmp t, R.tmp u, R.tmp s] Q E.ret { tm := tm, df := [], h := h } = Q (Ret.ok (V.tup [T.nth tm t, T.nth tm u, T.nth tm s])) h) ∧
  (∀ (Q : Ret → H → Prop) (tm : TM) (h : H), kEnd [] Q E.ret { tm := tm, df := [], h := h } = Q (Ret.ok (V.tup [])) h) ∧
  (∀ (Q : Ret → H → Prop) (tm : TM) (h : H), kEnd [] Q E.nor { tm := tm, df := [], h := h } = Q (Ret.ok (V.tup [])) h) ∧
  (∀ (res : List R) (Q : Ret → H → Prop) (v : V) (tm : TM) (h : H), kEnd res Q (E.pan v) { tm := tm, df := [], h := h } = Q (Ret.pan v) h) ∧
  (∀ {tm : TM} {h : H} (x : X), stepO (O.mov x) tm h = some (X.ev tm x, h)) ∧
  (∀ {tm : TM} {h : H} (c a b : X), stepO (O.pick c a b) tm h = pickV (X.ev tm c) (X.ev tm a) (X.ev tm b) h) ∧
  (∀ {tm : TM} {h : H} (op : BinOp) (x y : X), stepO (O.ar op x y) tm h = okV h (ar op (X.ev tm x) (X.ev tm y))) ∧
  (∀ {tm : TM} {h : H} (n : Bool) (k : List SK) (x y : X), stepO (O.eqA n k x y) tm h = eqAV n k (X.ev tm x) (X.ev tm y) h) ∧
  (∀ {tm : TM} {h : H} (n : Bool) (k : NK) (x : X), stepO (O.eqNil n k x) tm h = bif isNK k (X.ev tm x) then okB h n (isNil h (X.ev tm x)) else none) ∧
  (∀ {tm : TM} {h : H} (x : X), stepO (O.not x) tm h = notV (X.ev tm x) h) ∧
  (∀ {tm : TM} {h : H} (x : X), stepO (O.neg x) tm h = negV (X.ev tm x) h) ∧
  (∀ {tm : TM} {h : H} (k : IntKind) (x : X), stepO (O.conv k x) tm h = convV k (X.ev tm x) h) ∧
  (∀ {tm : TM} {h : H} (x : X), stepO (O.bstr x) tm h = bstrV (X.ev tm x) h) ∧
  (∀ {tm : TM} {h : H} (x : X), stepO (O.strb x) tm h = strbV (X.ev tm x) h) ∧
  (∀ {tm : TM} {h : H} (z : List V), stepO (O.alloc z) tm h = some (V.ptr (H.next h) 0, H.new h (Obj.cells z))) ∧
  (∀ {tm : TM} {h : H} (x : X), stepO (O.box x) tm h = boxL (V.cells (X.ev tm x)) h) ∧
  (∀ {tm : TM} {h : H} (z : List V) (p : List (Nat × Nat × X)), stepO (O.build z p) tm h = okAgg h (fillV p tm z)) ∧
  (∀ {tm : TM} {h : H} (e l : Nat) (z : List V) (p : List (Nat × Nat × X)), stepO (O.lits e l z p) tm h = litsL e l (fillV p tm z) h) ∧
  (∀ {tm : TM} {h : H} (n : Option Nat) (x : X), stepO (O.load n x) tm h = loadV n (X.ev tm x) h) ∧
  (∀ {tm : TM} {h : H} (n : Nat) (a x : X), stepO (O.store n a x) tm h = storeL n (X.ev tm a) (V.cells (X.ev tm x)) h) ∧
  (∀ {tm : TM} {h : H} (x : X), stepO (O.chk x) tm h = chkV (X.ev tm x) h) ∧
  (∀ {tm : TM} {h : H} (o : Nat) (x : X), stepO (O.fieldA o x) tm h = fieldAV o (X.ev tm x) h) ∧
  (∀ {tm : TM} {h : H} (o : Nat) (n : Option Nat) (x : X), stepO (O.field o n x) tm h = fieldV o n (X.ev tm x) h) ∧
  (∀ {tm : TM} {h : H} (e : Nat) (x i : X), stepO (O.idxA e x i) tm h = idxAV e (X.ev tm x) (natOf (X.ev tm i)) h) ∧
  (∀ {tm : TM} {h : H} (x i : X), stepO (O.idxS x i) tm h = idxSV (X.ev tm x) (natOf (X.ev tm i)) h) ∧
  (∀ {tm : TM} {h : H} (k : NK) (x : X), stepO (O.len k x) tm h = bif isNK k (X.ev tm x) then lenV (X.ev tm x) h else none) ∧
  (∀ {tm : TM} {h : H} (e b : Nat) (x y : X), stepO (O.app e b x y) tm h = appendV e b (X.ev tm x) (X.ev tm y) h) ∧
  (∀ {tm : TM} {h : H} (e : Nat) (x y : X), stepO (O.copy e x y) tm h = copyV e (X.ev tm x) (X.ev tm y) h) ∧
  (∀ {tm : TM} {h : H} (e : Nat) (x : X) (lo hi : Option X), stepO (O.slice e x lo hi) tm h = sliceXV e (X.ev tm x) (bound tm lo 0) (hiOf tm hi) h) ∧
  (∀ {tm : TM} {h : H} (x : X) (lo hi : Option X), stepO (O.sliceS x lo hi) tm h = sliceSV (X.ev tm x) tm lo hi h) ∧
  (∀ {tm : TM} {h : H}, stepO O.makeM tm h = some (V.map (H.next h), H.new h (Obj.mp []))) ∧
  (∀ {tm : TM} {h : H} (s : KK) (z : V) (ok : Bool) (m k : X), stepO (O.look s z ok m k) tm h = lookV s z ok (X.ev tm m) (X.ev tm k) h) ∧
  (∀ {tm : TM} {h : H} (s : KK) (m k v : X), stepO (O.upd s m k v) tm h = updV s (X.ev tm m) (X.ev tm k) (X.ev tm v) h) ∧
  (∀ {tm : TM} {h : H} (t : TypeId) (x : X), stepO (O.iface t x) tm h = some (V.ifc t (X.ev tm x), h)) ∧
  (∀ {tm : TM} {h : H} (f : Fn) (a b : List X), stepO (O.func f a b) tm h = some (V.fn f (evs a tm) (evs b tm), h)) ∧
  (∀ {tm : TM} {h : H} (x : X) (i : Nat), stepO (O.ext x i) tm h = extV (X.ev tm x) i h) ∧
  (∀ {tm : TM} {h : H} (x y : X), stepO (O.min x y) tm h = minV (X.ev tm x) (X.ev tm y) h) ∧
  (∀ {tm : TM} {h : H} (x y : X), stepO (O.max x y) tm h = maxV (X.ev tm x) (X.ev tm y) h) ∧
  (∀ {h : H} (v : V), okV h (some v) = some (v, h)) ∧
  (∀ {h : H} (l : List V), okAgg h (some l) = some (V.agg l, h)) ∧
  (∀ {h : H} (a b : V), pickV (bool true) a b h = some (a, h)) ∧
  (∀ {h : H} (a b : V), pickV (bool false) a b h = some (b, h)) ∧
  (∀ {h : H} (b : Bool), notV (bool b) h = some (bool !b, h)) ∧
  (∀ {h : H} (k k' : IntKind) (n : Int), convV k (V.lit (Value.int k' n)) h = some (V.lit (Value.int k (IntKind.wrap k n)), h)) ∧
  (∀ {h : H} (k : IntKind) (n : Int), negV (V.lit (Value.int k n)) h = some (V.lit (Value.int k (IntKind.wrap k (0 - n))), h)) ∧
  (∀ (k : IntKind) (a b : Int), ar BinOp.add (V.lit (Value.int k a)) (V.lit (Value.int k b)) = some (V.lit (Value.int k (IntKind.wrap k (a + b))))) ∧
  (∀ (k : IntKind) (a b : Int), ar BinOp.sub (V.lit (Value.int k a)) (V.lit (Value.int k b)) = some (V.lit (Value.int k (IntKind.wrap k (a - b))))) ∧
  (∀ (k : IntKind) (a b : Int), ar BinOp.mul (V.lit (Value.int k a)) (V.lit (Value.int k b)) = some (V.lit (Value.int k (IntKind.wrap k (a * b))))) ∧
  (∀ (k : IntKind) (a b : Int), ar BinOp.eql (V.lit (Value.int k a)) (V.lit (Value.int k b)) = some (bool (decide (a = b)))) ∧
  (∀ (k : IntKind) (a b : Int), ar BinOp.neq (V.lit (Value.int k a)) (V.lit (Value.int k b)) = some (bool !decide (a = b))) ∧
  (∀ (k : IntKind) (a b : Int), ar BinOp.lss (V.lit (Value.int k a)) (V.lit (Value.int k b)) = some (bool (decide (a < b)))) ∧
  (∀ (k : IntKind) (a b : Int), ar BinOp.gtr (V.lit (Value.int k a)) (V.lit (Value.int k b)) = some (bool (decide (b < a)))) ∧
  (∀ (k : IntKind) (a b : Int), ar BinOp.leq (V.lit (Value.int k a)) (V.lit (Value.int k b)) = some (bool (decide (a ≤ b)))) ∧
  (∀ (k : IntKind) (a b : Int), ar BinOp.geq (V.lit (Value.int k a)) (V.lit (Value.int k b)) = some (bool (decide (b ≤ a)))) ∧
  (∀ (l : List V), pad l = padL l 0 T.leaf) ∧
  (∀ {tm : TM} (v : V) (l : List V) (n : Nat), padL (v :: l) n tm = padL l (n + 1) (T.put tm n v)) ∧
  (∀ {tm : TM} (n : Nat), padL [] n tm = tm) ∧
  (∀ (n : Nat), T.nth T.leaf n = undefV) ∧
  (∀ {h : H} (p : V), loadV none p h = okV h (H.at1 h p)) ∧
  (∀ {h : H} (n : Nat) (p : V), loadV (some n) p h = okAgg h (H.at h p n)) :=
  ⟨@WC_seq, @WC_reg, @WC_cond, @WC_block, @WC_skip, @WC_exit, @WC_ret, @WOps_cons, @WOps_nil, @WStep_eq, @wanted_none, @wanted_some, @wantV_tt, @wantV_tf, @wantV_ft, @wantV_ff, @wantV_undef, @kWant_t, @kWant_f, @X.ev_t, @X.ev_c, @evs_cons, @evs_nil, @setD_some, @setD_none, @kVal_some, @kCall_some, @kRet_ok, @kRet_pan, @kCond_t, @kCond_f, @kSeq_nor, @kSeq_ret, @kSeq_ex, @kSeq_pan, @kBlock_nor, @kBlock_ret, @kBlock_pan, @kBlock_ex, @T.nth_put, @target_fn, @kEnd_ret1, @kEnd_ret2, @kEnd_ret3, @kEnd_ret0, @kEnd_nor0, @kEnd_pan, @stepO_mov, @stepO_pick, @stepO_ar, @stepO_eqA, @stepO_eqNil, @stepO_not, @stepO_neg, @stepO_conv, @stepO_bstr, @stepO_strb, @stepO_alloc, @stepO_box, @stepO_build, @stepO_lits, @stepO_load, @stepO_store, @stepO_chk, @stepO_fieldA, @stepO_field, @stepO_idxA, @stepO_idxS, @stepO_len, @stepO_app, @stepO_copy, @stepO_slice, @stepO_sliceS, @stepO_makeM, @stepO_look, @stepO_upd, @stepO_iface, @stepO_func, @stepO_ext, @stepO_min, @stepO_max, @okV_some', @okAgg_some', @pickV_t, @pickV_f, @notV_b, @convV_int, @negV_int, @ar_add, @ar_sub, @ar_mul, @ar_eql, @ar_neq, @ar_lss, @ar_gtr, @ar_leq, @ar_geq, @pad_eq, @padL_cons, @padL_nil, @T.nth_leaf', @loadV_one, @loadV_many⟩

end A
end Go.Proofs.YtcohlhplpogopaaGreat

