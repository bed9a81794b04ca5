/-
  maps, all silent operations, calls. (No statement of the seat is proved here.)
-/
import Derived.Test.YtcohlhplpogopaaGreatGc
set_option linter.unusedSimpArgs false
set_option linter.unusedVariables false
namespace Go.Proofs.YtcohlhplpogopaaGreat
namespace A

section
variable {P : Program} {σ : Sg} {m w : World} {h h' : H}

theorem okLen_some {n : Nat} {o : Option H} {v : V} (hs : okLen n o = some (v, h')) : o = some h' ∧ v = litI .i64 (Int.ofNat n) := by
  unfold okLen at hs; split at hs <;> cases hs; exact ⟨rfl, rfl⟩

theorem does_copy {t u e ty : TypeId} {es : Nat} {p q v : V} {x y : Value} (hs : copyV es p q h = some (v, h')) (hw : WRel σ m h w) (ha : VRel σ m p x) (hb : VRel σ m q y) (hk : kindP P t = some (.slice e))
    (hes : sizeP P e = some es) : Does P σ m (do pure (.value (← Builtin.copy_ #[t, u] ty #[x, y]))) v h h' w := by
  obtain ⟨d, e1, e2⟩ := kindP_some hk; have := tk_slice e2; subst this
  unfold copyV at hs
  split at hs
  · rename_i ys n hrow
    obtain ⟨yv, hyr, hyl, hylen, hyf⟩ := row_first (P := P) hrow hw hb
    unfold copyTo at hs
    split at hs
    · rename_i b off len es' cap
      cases he : Nat.beq es es' with
      | false => rw [he] at hs; cases hs
      | true =>
        rw [he] at hs
        have hee := Nat.eq_of_beq_eq_true he; subst hee
        obtain ⟨hput, rfl⟩ := okLen_some (show okLen (Nat.min n len) (h.put (.ptr b off) (ys.take (Nat.mul (Nat.min n len) es))) = some (v, h') from hs)
        obtain ⟨l, hl1, hl2, hl3, hl3k, hl4⟩ := putL_some (show putL h b off (ys.take (Nat.mul (Nat.min n len) es)) (h.cells b) = some h' from hput)
        have hg := cellsOf_some (show cellsOf (h.get b) = some l from hl1)
        obtain ⟨blk, k, size, l', c, hg', hσ, rfl, hlc, hsz, hcap, hlies⟩ := slc_live hw ha hg
        rw [hg] at hg'; cases hg'
        have hfn := hyf (Nat.min n len) (Nat.min_le_left _ _)
        obtain ⟨w', p1, p2, p3⟩ := put_rel (P := P) hw hg hσ hlies hl2 hl3 hl3k (LRel.take (Nat.min n len * es) hyr)
        rw [hl4]
        refine .of_run (x := .int .i64 (Nat.min n len)) (w' := w') (σ' := σ) ?_ (by simp only [litI, VRel]; rfl) p2 p3
        simp only [Builtin.copy_, List.getElem?_toArray, List.getElem?_cons_zero, List.getElem?_cons_succ, Sem.run_bind, run_und e1, Result.andThen_ok, hylen, sizeP_run hes, hfn, p1, Sem.run_pure, goInt]
    · have hx := litV_rel ha; subst hx
      cases hs
      have hfn := hyf (Nat.min n 0) (Nat.min_le_left _ _)
      refine .same (x := .int .i64 0) hw ?_ (by simp only [litI, VRel])
      simp only [Builtin.copy_, List.getElem?_toArray, List.getElem?_cons_zero, List.getElem?_cons_succ, Sem.run_bind, run_und e1, Result.andThen_ok, hylen, sizeP_run hes, hfn, Sem.run_pure, goInt]
      have : Nat.min n 0 = 0 := Nat.min_zero n
      rw [this]; rfl
    · cases hs
  · cases hs

/- keys -/
def IsKK : KK → Value → Prop
  | .one s, a => IsSK s a
  | .many l, a => ∃ xs : Array Value, a = .agg xs ∧ AreSK l xs.toList

theorem eqKey_rel {ks : KK} {x y : V} {a b : Value} {r : Bool} (hs : eqKey ks x y = some r) (hx : VRel σ m x a) (hy : VRel σ m y b) : IsKK ks a ∧ IsKK ks b ∧ (r = true ↔ a = b) := by
  unfold eqKey at hs
  split at hs
  · exact eqSK_rel hs hx hy
  · simp only [VRel] at hx hy
    obtain ⟨xs, rfl, hx⟩ := hx
    obtain ⟨ys, rfl, hy⟩ := hy
    obtain ⟨h1, h2, h3⟩ := eqAll_rel hs hx hy
    refine ⟨⟨xs, rfl, h1⟩, ⟨ys, rfl, h2⟩, ?_⟩
    rw [h3]
    constructor
    · intro e; congr 1; exact Array.ext' e
    · intro e; cases e; rfl
  · cases hs

theorem keyK_cases {kt : TypeId} {ks : KK} (hk : keyK P kt = some ks) : (∃ s, scalarK P kt = some s ∧ ks = .one s) ∨ (∃ l, plainK P kt = some l ∧ ks = .many l) := by
  unfold keyK at hk
  split at hk
  · rename_i s hs; cases hk; exact .inl ⟨s, hs, rfl⟩
  · split at hk
    · rename_i l hl; cases hk; exact .inr ⟨l, hl, rfl⟩
    · cases hk

theorem run_equal_kk {kt : TypeId} {ks : KK} (hk : keyK P kt = some ks) {a b : Value} (ha : IsKK ks a) (hb : IsKK ks b) : ∃ r, (Op.equal kt a b).run P w = .ok r w ∧ (r = true ↔ a = b) := by
  rcases keyK_cases hk with ⟨s, h1, rfl⟩ | ⟨l, h1, rfl⟩
  · exact run_equalIn_sk h1 ha hb 9999 w
  · obtain ⟨xs, rfl, hx⟩ := ha
    obtain ⟨ys, rfl, hy⟩ := hb
    obtain ⟨r, h2, h3⟩ := run_equalIn_plain h1 hx hy 9998 w
    refine ⟨r, h2, ?_⟩
    rw [h3]
    constructor
    · intro e; congr 1; exact Array.ext' e
    · intro e; cases e; rfl

theorem run_checkKey_sk {t : TypeId} {s : SK} (ht : scalarK P t = some s) {a : Value} (ha : IsSK s a) (e : Bool) (n : Nat) : (Instr.checkKey e (n + 1) t a).run P w = .ok () w := by
  have hu := scalarK_und ht
  cases s with
  | bool => obtain ⟨p, rfl⟩ := ha; simp [Instr.checkKey, run_und hu]
  | int k => obtain ⟨p, rfl⟩ := ha; simp [Instr.checkKey, run_und hu]
  | string => obtain ⟨p, rfl⟩ := ha; simp [Instr.checkKey, run_und hu]

theorem run_checkFields (e : Bool) (d : Nat) {xs : Array Value} : ∀ (fs : List Field) (n : Nat) (ks : List SK) (as : List Value), plainFs P fs n = some ks → AreSK ks as → (∀ j a, as[j]? = some a → xs[n + j]? = some a) →
    (forIn fs PUnit.unit (fun f (_ : PUnit) => (do
      if f.name ≠ "_" then
        Instr.checkKey e (d + 1) f.type (← part f.type xs f.offset)
        pure (ForInStep.yield PUnit.unit)
      else pure (ForInStep.yield PUnit.unit) : Sem (ForInStep PUnit)))).run P w = .ok PUnit.unit w
  | [], _, _, _, _, _, _ => rfl
  | f :: fs, n, ks, as, hp, ha, hxs => by
    obtain ⟨hc, s, ks', h1, h2, rfl⟩ := consK_some hp
    rw [Bool.and_eq_true, bne_iff_ne, Nat.beq_eq] at hc
    obtain ⟨hname, hoff⟩ := hc
    obtain ⟨a, as', rfl, ha1, ha2⟩ := ha
    have hx0 := hxs 0 a (by simp)
    have hrec := run_checkFields e d fs (n + 1) ks' as' h2 ha2 (fun j c hj => by rw [show n + 1 + j = n + (j + 1) from by omega]; exact hxs (j + 1) c (by simpa using hj))
    simp only [List.forIn_cons, ne_eq, hname, not_false_eq_true, if_true, Sem.run_bind]
    rw [hoff, part_scalar h1 xs n a (by simpa using hx0) w]
    simp only [Result.andThen_ok, run_checkKey_sk h1 ha1 e d, Sem.run_pure]
    exact hrec

theorem run_checkKey_kk {kt : TypeId} {ks : KK} (hk : keyK P kt = some ks) {a : Value} (ha : IsKK ks a) (e : Bool) : (Instr.checkKey e 10000 kt a).run P w = .ok () w := by
  rcases keyK_cases hk with ⟨s, h1, rfl⟩ | ⟨l, h1, rfl⟩
  · exact run_checkKey_sk h1 ha e 9999
  · obtain ⟨xs, rfl, hx⟩ := ha
    obtain ⟨fs, hu, _, _, hp⟩ := plainK_some h1
    have := run_checkFields (P := P) (w := w) e 9998 fs.toList 0 l xs.toList hp hx (fun j a hj => by simpa using hj)
    show (Instr.checkKey e (9999 + 1) kt (.agg xs)).run P w = _
    unfold Instr.checkKey
    simp only [Sem.run_bind, run_und hu, Result.andThen_ok]
    rw [← Array.forIn_toList]
    rw [this]; rfl

theorem sameNow_kk {s : SK} {a b : Value} (ha : IsSK s a) (hb : IsSK s b) : ∃ r, Instr.sameNow (match s with | .bool => .bool | .int k => .int k | .string => .string) a b = some r ∧ (r = true ↔ a = b) := by
  cases s with
  | bool => obtain ⟨p, rfl⟩ := ha; obtain ⟨q, rfl⟩ := hb; exact ⟨p == q, rfl, by simp⟩
  | int k => obtain ⟨p, rfl⟩ := ha; obtain ⟨q, rfl⟩ := hb; exact ⟨p == q, by simp [Instr.sameNow], by simp⟩
  | string =>
    obtain ⟨p, rfl⟩ := ha; obtain ⟨q, rfl⟩ := hb
    refine ⟨p == q, rfl, ?_⟩
    rw [beq_toListBytes, ByteArray.toList_eq, ByteArray.toList_eq]
    simp only [beq_iff_eq, Value.string.injEq]
    constructor
    · intro e; rcases p with ⟨⟨p⟩⟩; rcases q with ⟨⟨q⟩⟩; simp at e; rw [e]
    · intro e; rw [e]

/-- where a key stands in a list of entries whose keys fit. -/
inductive Finds (k : Value) : List MapEntry → Nat → Option (Nat × Value) → Prop where
  | nil (i : Nat) : Finds k [] i none
  | here (e : MapEntry) (l : List MapEntry) (i : Nat) (he : e.key = k) : Finds k (e :: l) i (some (i, e.val))
  | there (e : MapEntry) (l : List MapEntry) (i : Nat) (r : Option (Nat × Value)) (he : e.key ≠ k) (hr : Finds k l (i + 1) r) : Finds k (e :: l) i r

/-- the keys as far as the search goes. -/
inductive Fits (ks : KK) (k : Value) : List MapEntry → Prop where
  | nil : Fits ks k []
  | here (e : MapEntry) (l : List MapEntry) (he : e.key = k) : Fits ks k (e :: l)
  | there (e : MapEntry) (l : List MapEntry) (he : e.key ≠ k) (hk : IsKK ks e.key) (hr : Fits ks k l) : Fits ks k (e :: l)

theorem run_findAsking {kt : TypeId} {ks : KK} (hk : keyK P kt = some ks) {k : Value} (hkk : IsKK ks k) {l : List MapEntry} (hf : Fits ks k l) : ∀ i, ∃ r, (Instr.findAsking kt k l i).run P w = .ok r w ∧ Finds k l i r := by
  induction hf with
  | nil => exact fun i => ⟨none, rfl, .nil i⟩
  | here e l he =>
    intro i
    obtain ⟨r, h1, h2⟩ := run_equal_kk (P := P) (w := w) hk hkk (b := e.key) (by rw [he]; exact hkk)
    have : r = true := h2.2 he.symm
    subst this
    exact ⟨some (i, e.val), by simp [Instr.findAsking, h1], .here e l i he⟩
  | there e l he hke _ ih =>
    intro i
    obtain ⟨r, h1, h2⟩ := run_equal_kk (P := P) (w := w) hk hkk hke
    have : r = false := by
      cases r with
      | false => rfl
      | true => exact absurd (h2.1 rfl).symm he
    subst this
    obtain ⟨r', h3, h4⟩ := ih (i + 1)
    exact ⟨r', by simp [Instr.findAsking, h1, h3], .there e l i r' he h4⟩

theorem findNow_sk {s : SK} {k : Value} (hkk : IsSK s k) {l : List MapEntry} (hf : Fits (.one s) k l) :
    ∀ i, ∃ r, Instr.findNow (match s with | .bool => .bool | .int k => .int k | .string => .string) k l i = some r ∧ Finds k l i r := by
  induction hf with
  | nil => exact fun i => ⟨none, rfl, .nil i⟩
  | here e l he =>
    intro i
    obtain ⟨r, h1, h2⟩ := sameNow_kk (s := s) hkk (b := e.key) (by rw [he]; exact hkk)
    have : r = true := h2.2 he.symm
    subst this
    exact ⟨some (i, e.val), by simp [Instr.findNow, h1], .here e l i he⟩
  | there e l he hke _ ih =>
    intro i
    obtain ⟨r, h1, h2⟩ := sameNow_kk (s := s) hkk hke
    have : r = false := by
      cases r with
      | false => rfl
      | true => exact absurd (h2.1 rfl).symm he
    subst this
    obtain ⟨r', h3, h4⟩ := ih (i + 1)
    exact ⟨r', by simp [Instr.findNow, h1, h3], .there e l i r' he h4⟩

theorem run_findKey {kt : TypeId} {ks : KK} (hk : keyK P kt = some ks) {k : Value} (hkk : IsKK ks k) {l : List MapEntry} (hf : Fits ks k l) : ∃ r, (Instr.findKey kt k l).run P w = .ok r w ∧ Finds k l 0 r := by
  rcases keyK_cases hk with ⟨s, h1, rfl⟩ | ⟨ls, h1, rfl⟩
  · obtain ⟨r, h2, h3⟩ := findNow_sk hkk hf 0
    have hu := scalarK_und h1
    refine ⟨r, ?_, h3⟩
    cases s <;> (simp only at hu h2; simp [Instr.findKey, run_und hu, h2])
  · obtain ⟨fs, hu, _⟩ := plainK_some h1
    obtain ⟨xs, rfl, hx⟩ := hkk
    cases l with
    | nil => exact ⟨none, by simp [Instr.findKey, run_und hu, Instr.findNow], .nil 0⟩
    | cons e l =>
      obtain ⟨r, h2, h3⟩ := run_findAsking (P := P) (w := w) hk ⟨xs, rfl, hx⟩ hf 0
      refine ⟨r, ?_, h3⟩
      have hn : Instr.sameNow (.struct fs) (.agg xs) e.key = none := by cases e.key <;> rfl
      simp [Instr.findKey, run_und hu, Instr.findNow, hn, h2]

theorem findV_cons (ks : KK) (k : V) (p : V × V) (l : List (V × V)) : findV ks k (p :: l) = found (eqKey ks k p.1) p.2 (findV ks k l) := rfl

theorem findV_rel {ks : KK} {k : V} {a : Value} (hk : VRel σ m k a) : ∀ {l : List (V × V)} {es : List MapEntry} {r : Option V} (i : Nat), findV ks k l = some r → ERel σ m l es →
    Fits ks a es ∧ ∀ q, Finds a es i q → (r = none ∧ q = none) ∨ (∃ v j x, r = some v ∧ q = some (j, x) ∧ VRel σ m v x)
  | [], es, r, i, hs, he => by
    cases he
    have : r = none := by cases hs; rfl
    subst this
    exact ⟨.nil, fun q hq => by cases hq; exact .inl ⟨rfl, rfl⟩⟩
  | p :: l, es, r, i, hs, he => by
    obtain ⟨e, es', rfl, h1, h2, h3⟩ := he
    rw [findV_cons] at hs
    unfold found at hs
    split at hs
    · rename_i hq
      cases hs
      obtain ⟨_, _, h6⟩ := eqKey_rel hq hk h1
      have := h6.1 rfl
      refine ⟨.here e es' this.symm, fun q hq => ?_⟩
      cases hq with
      | here _ _ _ _ => exact .inr ⟨_, i, e.val, rfl, rfl, h2⟩
      | there _ _ _ _ hne _ => exact absurd this.symm hne
    · rename_i hq
      obtain ⟨_, h5, h6⟩ := eqKey_rel hq hk h1
      have hne : e.key ≠ a := fun e' => by have := h6.2 e'.symm; cases this
      obtain ⟨h7, h8⟩ := findV_rel hk (i + 1) hs h3
      refine ⟨.there e es' hne h5 h7, fun q hq => ?_⟩
      cases hq with
      | here _ _ _ he' => exact absurd he' hne
      | there _ _ _ _ _ hr => exact h8 q hr
    · cases hs

theorem does_look {t kt e : TypeId} {ks : KK} {z : Value} {ok : Bool} {p k v : V} {x y : Value} (hs : lookV ks (toV z) ok p k h = some (v, h')) (hw : WRel σ m h w) (ha : VRel σ m p x) (hb : VRel σ m k y)
    (hk : kindP P t = some (.map kt e)) (hz : zeroP P e = some z) (hks : keyK P kt = some ks) : Does P σ m (do pure (.value (← Instr.lookup t x y ok))) v h h' w := by
  obtain ⟨d, e1, e2⟩ := kindP_some hk; have := tk_map e2; subst this
  unfold lookV at hs
  split at hs
  · rename_i b
    unfold lookE at hs
    split at hs
    · rename_i es r hes hkey
      obtain ⟨blk, hσ, rfl, a, ck, hb', her⟩ := map_live hw ha (mapOf_some hes)
      obtain ⟨hkk, _, _⟩ := eqKey_rel hkey hb hb
      unfold lookR at hs
      have fin : ∀ o, findV ks k es = some o → ∃ q, (Instr.findKey kt y a.toList).run P w = .ok q w ∧ ((o = none ∧ q = none) ∨ (∃ v j x, o = some v ∧ q = some (j, x) ∧ VRel σ m v x)) := by
        intro o ho
        obtain ⟨h1, h2⟩ := findV_rel hb 0 ho her
        obtain ⟨q, h3, h4⟩ := run_findKey (P := P) (w := w) hks hkk h1
        exact ⟨q, h3, h2 q h4⟩
      have hobj : (getObj blk).run P w = .ok (.map a ck) w := by simp [getObj, Sem.run, hb']
      split at hs
      · rename_i v0 hfv
        cases hs
        obtain ⟨q, hq, hcase⟩ := fin _ hfv
        rcases hcase with ⟨hh, _⟩ | ⟨v', j, x', hv', rfl, hx'⟩
        · cases hh
        · cases hv'
          refine .same (x := if ok then .tuple #[x', .bool true] else x') hw ?_ ?_
          · simp only [Instr.lookup, Sem.run_bind, run_und e1, Result.andThen_ok, hobj, Sem.run_pure, run_checkKey_kk hks hkk, hq]
          · cases ok
            · exact hx'
            · simp only [cond_true, if_true, VRel]; exact ⟨_, rfl, LRel.cons hx' (LRel.cons (by simp only [litB, VRel]) LRel.nil)⟩
      · rename_i hfv
        cases hs
        obtain ⟨q, hq, hcase⟩ := fin _ hfv
        rcases hcase with ⟨_, rfl⟩ | ⟨v', j, x', hv', _⟩
        · refine .same (x := if ok then .tuple #[z, .bool false] else z) hw ?_ ?_
          · simp only [Instr.lookup, Sem.run_bind, run_und e1, Result.andThen_ok, hobj, Sem.run_pure, run_checkKey_kk hks hkk, hq, zeroP_run hz]
          · cases ok
            · exact toV_rel z
            · simp only [cond_true, if_true, VRel]; exact ⟨_, rfl, LRel.cons (toV_rel z) (LRel.cons (by simp only [litB, VRel]) LRel.nil)⟩
        · cases hv'
      · cases hs
    · cases hs
  · cases hs

theorem setV_cons (ks : KK) (k v : V) (p : V × V) (l : List (V × V)) : setV ks k v (p :: l) = placed k v p l (eqKey ks k p.1) (setV ks k v l) := rfl

theorem setV_rel {ks : KK} {k v : V} {a x : Value} (hk : VRel σ m k a) (hv : VRel σ m v x) : ∀ {l l' : List (V × V)} {es : List MapEntry} (i : Nat), setV ks k v l = some l' → ERel σ m l es →
    Fits ks a es ∧ ∀ q, Finds a es i q → (q = none ∧ ∀ e : MapEntry, e.key = a → e.val = x → ERel σ m l' (es ++ [e])) ∨
      (∃ j z, q = some (i + j, z) ∧ (∃ e, es[j]? = some e ∧ e.key = a) ∧ ∀ e : MapEntry, e.key = a → e.val = x → ERel σ m l' (es.set j e))
  | [], l', es, i, hs, he => by
    cases he
    have : l' = [(k, v)] := by cases hs; rfl
    subst this
    refine ⟨.nil, fun q hq => ?_⟩
    cases hq
    exact .inl ⟨rfl, fun e h1 h2 => ⟨e, [], rfl, by rw [h1]; exact hk, by rw [h2]; exact hv, rfl⟩⟩
  | p :: l, l', es, i, hs, he => by
    obtain ⟨e, es', rfl, h1, h2, h3⟩ := he
    rw [setV_cons] at hs
    unfold placed at hs
    split at hs
    · rename_i hq
      cases hs
      obtain ⟨_, _, h6⟩ := eqKey_rel hq hk h1
      have heq := h6.1 rfl
      refine ⟨.here e es' heq.symm, fun q hq => ?_⟩
      cases hq with
      | here _ _ _ _ => exact .inr ⟨0, e.val, rfl, ⟨e, rfl, heq.symm⟩, fun e' h7 h8 => ⟨e', es', rfl, by rw [h7]; exact hk, by rw [h8]; exact hv, h3⟩⟩
      | there _ _ _ _ hne _ => exact absurd heq.symm hne
    · rename_i r hq hr
      cases hs
      obtain ⟨_, h5, h6⟩ := eqKey_rel hq hk h1
      have hne : e.key ≠ a := fun e' => by have := h6.2 e'.symm; cases this
      obtain ⟨h7, h8⟩ := setV_rel hk hv (i + 1) hr h3
      refine ⟨.there e es' hne h5 h7, fun q hq => ?_⟩
      cases hq with
      | here _ _ _ he' => exact absurd he' hne
      | there _ _ _ _ _ hr' =>
        rcases h8 q hr' with ⟨h9, h10⟩ | ⟨j, z, h9, ⟨e0, h10, h11⟩, h12⟩
        · exact .inl ⟨h9, fun e' g1 g2 => ⟨e, es' ++ [e'], rfl, h1, h2, h10 e' g1 g2⟩⟩
        · refine .inr ⟨j + 1, z, by rw [h9, Nat.add_assoc, Nat.add_comm 1 j], ⟨e0, by simpa using h10, h11⟩, fun e' g1 g2 => ⟨e, es'.set j e', rfl, h1, h2, h12 e' g1 g2⟩⟩
    · cases hs

theorem sameBits_sk {s : SK} {a : Value} (ha : IsSK s a) (n : Nat) : Instr.sameBits n a a = true := by
  cases s with
  | bool => obtain ⟨p, rfl⟩ := ha; simp [Instr.sameBits]
  | int k => obtain ⟨p, rfl⟩ := ha; simp [Instr.sameBits]
  | string =>
    obtain ⟨p, rfl⟩ := ha
    simp only [Instr.sameBits]
    rw [beq_toListBytes]; simp

theorem sameBits_all : ∀ {ks : List SK} {xs : List Value} (n : Nat), AreSK ks xs → (xs.zip xs).all (fun (x, y) => Instr.sameBits n x y) = true
  | [], xs, n, ha => by cases ha; rfl
  | s :: ks, xs, n, ha => by
    obtain ⟨a, r, rfl, h1, h2⟩ := ha
    simp only [List.zip_cons_cons, List.all_cons, sameBits_sk h1 n, Bool.true_and]
    exact sameBits_all n h2

theorem sameBits_kk {ks : KK} {a : Value} (ha : IsKK ks a) : Instr.sameBits 10000 a a = true := by
  cases ks with
  | one s => exact sameBits_sk ha _
  | many l =>
    obtain ⟨xs, rfl, hx⟩ := ha
    show (xs.size == xs.size && (xs.toList.zip xs.toList).all fun (x, y) => Instr.sameBits 9999 x y) = true
    rw [sameBits_all 9999 hx]; simp

theorem does_upd {t kt e : TypeId} {ks : KK} {p k u v : V} {x y z : Value} (hs : updV ks p k u h = some (v, h')) (hw : WRel σ m h w) (ha : VRel σ m p x) (hb : VRel σ m k y) (hu : VRel σ m u z)
    (hk : kindP P t = some (.map kt e)) (hks : keyK P kt = some ks) : Does P σ m (do Instr.mapUpdate t x y z; pure .skip) v h h' w := by
  obtain ⟨d, e1, e2⟩ := kindP_some hk; have := tk_map e2; subst this
  unfold updV at hs
  split at hs
  · rename_i b
    unfold updE at hs
    split at hs
    · rename_i es r hes hkey
      have hg := mapOf_some hes
      obtain ⟨blk, hσ, rfl, a, ck, hb', her⟩ := map_live hw ha hg
      obtain ⟨hkk, _, _⟩ := eqKey_rel hkey hb hb
      unfold updR at hs
      split at hs
      · rename_i es' hset
        cases hs
        obtain ⟨h1, h2⟩ := setV_rel hb hu 0 hset her
        obtain ⟨q, h3, h4⟩ := run_findKey (P := P) (w := w) hks hkk h1
        have hobj : (getObj blk).run P w = .ok (.map a ck) w := by simp [getObj, Sem.run, hb']
        have hset' : ∀ o, (setObj blk o).run P w = .ok () { w with heap := w.heap.setIfInBounds blk o } := by intro o; simp [setObj, Sem.run, hb']
        rcases h2 q h4 with ⟨rfl, h5⟩ | ⟨j, z0, rfl, ⟨e0, h6, h7⟩, h8⟩
        · obtain ⟨g1, g2⟩ := hw.pokeM (a' := a.push { key := y, val := z, born := ck }) (k' := ck + 1) hg hσ (by simpa using h5 { key := y, val := z, born := ck } rfl rfl)
          refine ⟨undef, _, σ, .inr ⟨?_, rfl⟩, undef_rel, g1, g2⟩
          simp only [Instr.mapUpdate, Sem.run_bind, run_und e1, Result.andThen_ok, hobj, run_checkKey_kk hks hkk, h3, hset', Sem.run_pure]
        · rw [Nat.zero_add] at h3 h4
          have h6' : a[j]? = some e0 := by simpa using h6
          have hmod : (a.modify j fun e => { e with key := y, val := z }).toList = a.toList.set j { e0 with key := y, val := z } := by
            apply List.ext_getElem?
            intro i
            rw [Array.getElem?_toList, Array.getElem?_modify, List.getElem?_set]
            by_cases hi : j = i
            · subst hi
              have : j < a.toList.length := (List.getElem?_eq_some_iff.1 h6).1
              have hj : j < a.size := by simpa using this
              have he : a[j] = e0 := (Array.getElem?_eq_some_iff.1 h6').2
              simp [h6', hj, he]
            · simp [hi]
          obtain ⟨g1, g2⟩ := hw.pokeM (a' := a.modify j fun e => { e with key := y, val := z }) (k' := ck) hg hσ (by rw [hmod]; exact h8 _ rfl rfl)
          refine ⟨undef, _, σ, .inr ⟨?_, rfl⟩, undef_rel, g1, g2⟩
          have hstay : (Instr.keyThatStays y y).run P w = .ok y w := by simp [Instr.keyThatStays, sameBits_kk hkk]
          simp only [Instr.mapUpdate, Sem.run_bind, run_und e1, Result.andThen_ok, hobj, run_checkKey_kk hks hkk, h3, h6', Option.map_some, Option.getD_some, h7, hstay, hset', Sem.run_pure]
      · cases hs
    · cases hs
  · cases hs

end
end A
end Go.Proofs.YtcohlhplpogopaaGreat

namespace Go.Proofs.YtcohlhplpogopaaGreat
namespace A

section
variable {P : Program} {σ : Sg} {m w : World} {h h' : H}

def shaped : NK → Value → Prop
  | .ptr, a => ∃ p, a = .pointer p
  | .slc, a => ∃ p l k, a = .slice p l k
  | .map, a => ∃ r, a = .map r
  | .ifc, a => a = .nilIface ∨ ∃ t x, a = .iface t x
  | .fn, a => a = .nilFunc ∨ ∃ f x y, a = .func f x y
  | .str, a => ∃ s, a = .string s

theorem isNK_rel {k : NK} {u : V} {a : Value} (hk : isNK k u = true) (ha : VRel σ m u a) : shaped k a := by
  have hl : ∀ b o, u = .ptr b o → ∃ p, a = .pointer p := by rintro b o rfl; obtain ⟨p, e⟩ := ptr_shape ha; exact ⟨_, e⟩
  have hl' : ∀ b o l e c, u = .slc b o l e c → ∃ p l k, a = .slice p l k := by rintro b o l e c rfl; obtain ⟨p, k, e⟩ := slc_shape ha; exact ⟨_, _, _, e⟩
  unfold isNK at hk
  split at hk
  · cases k <;> first | (exact absurd hk Bool.false_ne_true) | (have e := litV_rel ha; exact ⟨_, e⟩)
  · cases k <;> first | (exact absurd hk Bool.false_ne_true) | (exact hl _ _ rfl)
  · cases k <;> first | (exact absurd hk Bool.false_ne_true) | (simp only [VRel] at ha; obtain ⟨_, _, e, _⟩ := ha; exact ⟨_, e⟩)
  · cases k <;> first | (exact absurd hk Bool.false_ne_true) | (have e := litV_rel ha; exact ⟨_, _, _, e⟩)
  · cases k <;> first | (exact absurd hk Bool.false_ne_true) | (exact hl' _ _ _ _ _ rfl)
  · cases k <;> first | (exact absurd hk Bool.false_ne_true) | (simp only [VRel] at ha; obtain ⟨_, _, _, _, e, _⟩ := ha; exact ⟨_, _, _, e⟩)
  · cases k <;> first | (exact absurd hk Bool.false_ne_true) | (have e := litV_rel ha; exact ⟨_, e⟩)
  · cases k <;> first | (exact absurd hk Bool.false_ne_true) | (simp only [VRel] at ha; obtain ⟨_, _, e⟩ := ha; exact ⟨_, e⟩)
  · cases k <;> first | (exact absurd hk Bool.false_ne_true) | (have e := litV_rel ha; exact .inl e)
  · cases k <;> first | (exact absurd hk Bool.false_ne_true) | (simp only [VRel] at ha; obtain ⟨_, e, _⟩ := ha; exact .inr ⟨_, _, e⟩)
  · cases k <;> first | (exact absurd hk Bool.false_ne_true) | (have e := litV_rel ha; exact .inl e)
  · cases k <;> first | (exact absurd hk Bool.false_ne_true) | (simp only [VRel] at ha; obtain ⟨_, _, e, _⟩ := ha; exact .inr ⟨_, _, _, e⟩)
  · cases k <;> first | (exact absurd hk Bool.false_ne_true) | (have e := litV_rel ha; exact ⟨_, e⟩)
  · exact absurd hk Bool.false_ne_true

theorem condN_some {α : Type} {c : Bool} {o : Option α} {v : α} (hs : cond c o none = some v) : c = true ∧ o = some v := by
  cases c
  · cases hs
  · exact ⟨rfl, hs⟩

theorem nilV_shape {k : NK} {c : Value} (hc : nilV k c = true) : (k = .ifc ∧ c = .nilIface) ∨ (k = .fn ∧ c = .nilFunc) ∨ (k = .ptr ∧ c = .pointer none) ∨ (k = .slc ∧ c = .slice none 0 0) ∨ (k = .map ∧ c = .map none) := by
  unfold nilV at hc
  split at hc
  · exact .inl ⟨rfl, rfl⟩
  · exact .inr (.inl ⟨rfl, rfl⟩)
  · exact .inr (.inr (.inl ⟨rfl, rfl⟩))
  · exact .inr (.inr (.inr (.inl ⟨rfl, rfl⟩)))
  · exact .inr (.inr (.inr (.inr ⟨rfl, rfl⟩)))
  · cases hc

theorem shaped_fit {k : NK} {d : TypeDesc} {a c : Value} (hd : tkN (tk d) = some k) (ha : shaped k a) (hc : nilV k c = true) : nilFit d a c := by
  rcases nilV_shape hc with ⟨rfl, rfl⟩ | ⟨rfl, rfl⟩ | ⟨rfl, rfl⟩ | ⟨rfl, rfl⟩ | ⟨rfl, rfl⟩
  all_goals (cases d <;> first | (simp [tk, tkN] at hd; done) | skip)
  · exact .inr (.inr (.inr (.inl ⟨_, rfl, ha, rfl⟩)))
  · exact .inr (.inr (.inr (.inr ⟨_, _, _, rfl, ha, rfl⟩)))
  · obtain ⟨p, rfl⟩ := ha; exact .inl ⟨_, _, rfl, rfl, rfl⟩
  · obtain ⟨p, l, k, rfl⟩ := ha; exact .inr (.inl ⟨_, _, _, _, rfl, rfl, rfl⟩)
  · obtain ⟨r, rfl⟩ := ha; exact .inr (.inr (.inl ⟨_, _, _, rfl, rfl, rfl⟩))

theorem isNil_shaped {k : NK} {u : V} {b : Bool} {a : Value} (hk : isNK k u = true) (hs : isNil h u = some b) (hw : WRel σ m h w) (ha : VRel σ m u a) : nilA a = b ∧ shaped k a := by
  exact ⟨(isNil_rel hs hw ha).1, isNK_rel hk ha⟩

theorem does_eqNil {neg : Bool} {k : NK} {tkd : TK} {op : BinOp} {t : TypeId} {x : Operand} {c a : Value} {u v : V} (hs : cond (isNK k u) (okB h neg (isNil h u)) none = some (v, h')) (hw : WRel σ m h w) (ha : VRel σ m u a)
    (ht : kindP P t = some tkd) (htk : tkN tkd = some k) (hc : nilV k c = true) (ho : op = (bif neg then .neq else .eql)) :
    Does P σ m (do pure (.value (← (do eqGuard op t x (.const c) a c; binOp op t a c : Sem Value)))) v h h' w := by
  obtain ⟨h1, h2⟩ := condN_some hs
  obtain ⟨b, h3, rfl, rfl⟩ := okB_some h2
  obtain ⟨h4, h5⟩ := isNil_shaped h1 h3 hw ha
  obtain ⟨d, hu, rfl⟩ := kindP_some ht
  have hf := shaped_fit htk h5 hc
  have hne : ∀ l, c ≠ .agg l := by
    rintro l rfl
    rcases nilV_shape hc with ⟨_, e⟩ | ⟨_, e⟩ | ⟨_, e⟩ | ⟨_, e⟩ | ⟨_, e⟩ <;> cases e
  refine .same (x := .bool (xor neg b)) hw ?_ (by simp only [litB, VRel])
  rw [Sem.run_bind, eqGuard_ne (fun _ l _ e => absurd e (hne l)) (fun _ _ => ⟨_, rfl⟩), Result.andThen_ok]
  have he := run_equal_nil (P := P) (w := w) hu hf
  subst ho; subst h4
  rcases hf with ⟨e, p, rfl, rfl, rfl⟩ | ⟨e, p, l, k, rfl, rfl, rfl⟩ | ⟨k, e, r, rfl, rfl, rfl⟩ | ⟨ms, rfl, ha, rfl⟩ | ⟨p, q, r, rfl, ha, rfl⟩
  · cases neg <;> simp [binOp, he]
  · cases neg <;> simp [binOp, he]
  · cases neg <;> simp [binOp, he]
  · rcases ha with rfl | ⟨t', x, rfl⟩ <;> cases neg <;> simp [binOp, he]
  · rcases ha with rfl | ⟨f, x, y, rfl⟩ <;> cases neg <;> simp [binOp, he]

theorem does_lenK {k : NK} {t u' : TypeId} {u v : V} {x : Value} {tkd : TK} (hs : cond (isNK k u) (lenV u h) none = some (v, h')) (hw : WRel σ m h w) (ha : VRel σ m u x) (ht : kindP P t = some tkd) (htk : tkN tkd = some k)
    (hk : k = .str ∨ k = .slc ∨ k = .map) : Does P σ m (do pure (.value (← Builtin.len_ #[t] u' #[x]))) v h h' w := by
  obtain ⟨h1, h2⟩ := condN_some hs
  have hsh : shaped k x := isNK_rel h1 ha
  have hd : (k = .str ∧ tkd = .string) ∨ (k = .slc ∧ ∃ e, tkd = .slice e) ∨ (k = .map ∧ ∃ a b, tkd = .map a b) := by
    rcases hk with rfl | rfl | rfl <;> (cases tkd <;> first | (simp [tkN] at htk; done) | skip)
    · exact .inl ⟨rfl, rfl⟩
    · exact .inr (.inl ⟨rfl, _, rfl⟩)
    · exact .inr (.inr ⟨rfl, _, _, rfl⟩)
  rcases hd with ⟨rfl, rfl⟩ | ⟨rfl, e, rfl⟩ | ⟨rfl, a, b, rfl⟩
  · obtain ⟨s, rfl⟩ := hsh
    exact does_len h2 hw ha (.inl ht) ⟨fun _ _ => ht, ⟨fun _ _ _ e => (by cases e), fun _ e => (by cases e)⟩⟩
  · obtain ⟨p, l, k, rfl⟩ := hsh
    exact does_len h2 hw ha (.inr (.inl ⟨_, ht⟩)) ⟨fun _ e => (by cases e), ⟨fun _ _ _ _ => ⟨_, ht⟩, fun _ e => (by cases e)⟩⟩
  · obtain ⟨r, rfl⟩ := hsh
    exact does_len h2 hw ha (.inr (.inr ⟨_, _, ht⟩)) ⟨fun _ e => (by cases e), ⟨fun _ _ _ e => (by cases e), fun _ _ => ⟨_, _, ht⟩⟩⟩

end

section
variable {P : Program} {σ : Sg} {m w : World} {h h' : H} {tm : TM} {a : Go.Act} {c : O} {v : V}

theorem natOf_rel {i : V} {y : Value} {n : Nat} (hs : natOf i = some n) (hi : VRel σ m i y) : ∃ k, y = .int k (n : Int) := by
  unfold natOf at hs
  split at hs
  · cases hs; have e := litV_rel hi; exact ⟨_, e⟩
  · cases hs

theorem sound_bin {op : BinOp} {t : TypeId} {x y : Operand} (hc : binO P op t x y = some c) (hs : stepO c tm h = some (v, h')) (ht : TRel σ m tm a.tmps) (hw : WRel σ m h w) :
    Does P σ m (do pure (.value (← (do eqGuard op t x y (a.eval x) (a.eval y); binOp op t (a.eval x) (a.eval y) : Sem Value)))) v h h' w := by
  unfold binO at hc
  split at hc
  · obtain ⟨p, q, h1, h2, rfl⟩ := mapX2_some hc
    exact does_ar hs hw (X_rel ht h1) (X_rel ht h2)
  · obtain ⟨p, q, h1, h2, rfl⟩ := mapX2_some hc
    exact does_ar hs hw (X_rel ht h1) (X_rel ht h2)
  · rename_i hk
    split at hc
    · obtain ⟨p, q, h1, h2, rfl⟩ := mapX2_some hc
      exact does_eqB hs hw (X_rel ht h1) (X_rel ht h2) hk rfl
    · obtain ⟨p, q, h1, h2, rfl⟩ := mapX2_some hc
      exact does_eqB hs hw (X_rel ht h1) (X_rel ht h2) hk rfl
    · cases hc
  · split at hc
    · rename_i ks hp
      split at hc
      · obtain ⟨p, q, h1, h2, rfl⟩ := mapX2_some hc
        exact does_eqA hs hw (X_rel ht h1) (X_rel ht h2) hp rfl
      · obtain ⟨p, q, h1, h2, rfl⟩ := mapX2_some hc
        exact does_eqA hs hw (X_rel ht h1) (X_rel ht h2) hp rfl
      · cases hc
    · cases hc
  · rename_i k _ _ _ _ hk
    unfold nilO at hc
    split at hc
    · rename_i nk hnk
      obtain ⟨h1, h2⟩ := condN_some hc
      cases y with
      | const cv =>
        split at h2
        · obtain ⟨p, h3, rfl⟩ := mapX_some h2
          exact does_eqNil hs hw (X_rel ht h3) hk hnk h1 rfl
        · obtain ⟨p, h3, rfl⟩ := mapX_some h2
          exact does_eqNil hs hw (X_rel ht h3) hk hnk h1 rfl
        · cases h2
      | _ => cases h1
    · cases hc
  · cases hc

theorem bound_rel {x : Option Operand} {y : Option X} {d n : Nat} (hx : compOX x = some y) (hb : bound tm y d = some n) (ht : TRel σ m tm a.tmps) : (x.map a.eval = none ∧ n = d) ∨ ∃ k, x.map a.eval = some (.int k (n : Int)) := by
  cases x with
  | none => cases hx; cases hb; exact .inl ⟨rfl, rfl⟩
  | some x =>
    simp only [compOX] at hx
    split at hx
    · rename_i y' hy
      cases hx
      obtain ⟨k, e⟩ := natOf_rel (show natOf (X.ev tm y') = some n from hb) (X_rel ht hy)
      exact .inr ⟨k, by rw [Option.map_some, e]⟩
    · cases hx

theorem hiOf_rel {x : Option Operand} {y : Option X} {r : Option (Option Nat)} (hx : compOX x = some y) (hb : hiOf tm y = r) (ht : TRel σ m tm a.tmps) :
    (r = none ∧ x.map a.eval = none) ∨ (r = some none) ∨ ∃ k n, r = some (some n) ∧ x.map a.eval = some (.int k (n : Int)) := by
  cases x with
  | none => cases hx; exact .inl ⟨hb.symm, rfl⟩
  | some x =>
    simp only [compOX] at hx
    split at hx
    · rename_i y' hy
      cases hx
      subst hb
      cases hn : natOf (X.ev tm y') with
      | none => exact .inr (.inl (by show some (natOf (X.ev tm y')) = _; rw [hn]))
      | some n =>
        obtain ⟨k, e⟩ := natOf_rel hn (X_rel ht hy)
        exact .inr (.inr ⟨k, n, by show some (natOf (X.ev tm y')) = _; rw [hn], by rw [Option.map_some, e]⟩)
    · cases hx

theorem sound_slice {t : TypeId} {x : Operand} {lo hi mx : Option Operand} (hc : sliceO P t x lo hi mx = some c) (hs : stepO c tm h = some (v, h')) (ht : TRel σ m tm a.tmps) (hw : WRel σ m h w) :
    Does P σ m (do pure (.value (← Instr.sliceAt t (a.eval x) (lo.map a.eval) (hi.map a.eval) (mx.map a.eval)))) v h h' w := by
  unfold sliceO at hc
  split at hc
  · rename_i xx lo' hi' hx hlo hhi
    split at hc
    · rename_i e hk
      split at hc
      · rename_i n hn
        cases hc
        have hs' : sliceXV n (xx.ev tm) (bound tm lo' 0) (hiOf tm hi') h = some (v, h') := hs
        unfold sliceXV at hs'
        split at hs'
        · rename_i l hl hh
          obtain ⟨h1, rfl⟩ := okV_some hs'
          rcases hiOf_rel hhi hh ht with ⟨_, e1⟩ | e1 | ⟨_, _, e1, _⟩
          · rw [e1]
            exact does_sliceV h1 hw (X_rel ht hx) hk hn (bound_rel hlo hl ht) (.inl ⟨rfl, rfl⟩)
          · cases e1
          · cases e1
        · rename_i l j hl hh
          obtain ⟨h1, rfl⟩ := okV_some hs'
          rcases hiOf_rel hhi hh ht with ⟨e1, _⟩ | e1 | ⟨k, n', e1, e2⟩
          · cases e1
          · cases e1
          · cases e1
            rw [e2]
            exact does_sliceV h1 hw (X_rel ht hx) hk hn (bound_rel hlo hl ht) (.inr ⟨k, _, rfl, rfl⟩)
        · cases hs'
      · cases hc
    · rename_i hk
      cases hc
      have hs' : sliceSV (xx.ev tm) tm lo' hi' h = some (v, h') := hs
      unfold sliceSV at hs'
      split at hs'
      · rename_i s he
        have hxr := X_rel (σ := σ) (m := m) ht hx
        rw [he] at hxr
        exact does_sliceS hs' hw (litV_rel hxr) hk (fun n hn => bound_rel hlo hn ht) (fun n hn => bound_rel hhi hn ht)
      · cases hs'
    · cases hc
  · cases hc

theorem sound_builtin {b : Builtin} {ts : Array TypeId} {ty : TypeId} {xs : Array Operand} {cs : Array Bool} (hc : builtinO P b ts.toList xs.toList = some c) (hs : stepO c tm h = some (v, h')) (ht : TRel σ m tm a.tmps) (hw : WRel σ m h w)
    (hf : Free σ h.next h'.next) : Does P σ m (builtin b ts ty cs (xs.map a.eval)) v h h' w := by
  obtain ⟨ts⟩ := ts
  obtain ⟨xs⟩ := xs
  simp only at hc
  have e1 : ∀ x, Array.map a.eval ⟨[x]⟩ = #[a.eval x] := by intro x; simp
  have e2 : ∀ x y, Array.map a.eval ⟨[x, y]⟩ = #[a.eval x, a.eval y] := by intro x y; simp
  unfold builtinO at hc
  split at hc
  · rename_i t x
    rw [e1]
    unfold lenO at hc
    split at hc
    · rename_i hk
      obtain ⟨y, h1, rfl⟩ := mapX_some hc
      exact does_lenK hs hw (X_rel ht h1) hk rfl (.inl rfl)
    · rename_i hk
      obtain ⟨y, h1, rfl⟩ := mapX_some hc
      exact does_lenK hs hw (X_rel ht h1) hk rfl (.inr (.inl rfl))
    · rename_i hk
      obtain ⟨y, h1, rfl⟩ := mapX_some hc
      exact does_lenK hs hw (X_rel ht h1) hk rfl (.inr (.inr rfl))
    · cases hc
  · rename_i t u x y
    rw [e2]
    unfold appO at hc
    split at hc
    · rename_i e e' hk hu
      split at hc
      · rename_i n bb z hn hb hz
        obtain ⟨h1, h2⟩ := condN_some hc
        obtain ⟨p, q, h3, h4, rfl⟩ := mapX2_some h2
        simp only [Bool.and_eq_true] at h1
        exact does_app hs hw hf (X_rel ht h3) (X_rel ht h4) hk hn hb hz (Nat.eq_of_beq_eq_true h1.2.2) (Nat.le_of_ble_eq_true h1.1.2) (Nat.le_of_ble_eq_true h1.1.1) (.inl ⟨_, hu⟩)
      · cases hc
    · rename_i e hk hu
      split at hc
      · rename_i n bb z hn hb hz
        obtain ⟨h1, h2⟩ := condN_some hc
        obtain ⟨p, q, h3, h4, rfl⟩ := mapX2_some h2
        simp only [Bool.and_eq_true] at h1
        exact does_app hs hw hf (X_rel ht h3) (X_rel ht h4) hk hn hb hz (Nat.eq_of_beq_eq_true h1.2.2) (Nat.le_of_ble_eq_true h1.1.2) (Nat.le_of_ble_eq_true h1.1.1) (.inr hu)
      · cases hc
    · cases hc
  · rename_i t u x y
    rw [e2]
    unfold copyO at hc
    split at hc
    · rename_i e hk
      split at hc
      · rename_i n hn
        obtain ⟨p, q, h3, h4, rfl⟩ := mapX2_some hc
        exact does_copy hs hw (X_rel ht h3) (X_rel ht h4) hk hn
      · cases hc
    · cases hc
  · rw [e2]
    obtain ⟨_, h2⟩ := condN_some hc
    obtain ⟨p, q, h3, h4, rfl⟩ := mapX2_some h2
    exact does_min hs hw (X_rel ht h3) (X_rel ht h4)
  · rw [e2]
    obtain ⟨_, h2⟩ := condN_some hc
    obtain ⟨p, q, h3, h4, rfl⟩ := mapX2_some h2
    exact does_max hs hw (X_rel ht h3) (X_rel ht h4)
  · cases hc

end
end A
end Go.Proofs.YtcohlhplpogopaaGreat

namespace Go.Proofs.YtcohlhplpogopaaGreat
namespace A

section
variable {P : Program} {σ : Sg} {m w : World} {h h' : H} {tm : TM} {a : Go.Act} {c : O} {v : V}

theorem sound_conv {s t : TypeId} {x : Operand} (hc : convO P s t x = some c) (hs : stepO c tm h = some (v, h')) (ht : TRel σ m tm a.tmps) (hw : WRel σ m h w) (hf : Free σ h.next h'.next) :
    Does P σ m (do pure (.value (← convert s t (a.eval x)))) v h h' w := by
  have hu : ∀ e, isU8 P e = true → kindP P e = some (.int .u8) := by
    intro e he; unfold isU8 at he; split at he
    · assumption
    · cases he
  unfold convO at hc
  split at hc
  · rename_i k k' h1 h2
    obtain ⟨y, h3, rfl⟩ := mapX_some hc
    exact does_conv hs hw (X_rel ht h3) ⟨_, h1⟩ h2
  · rename_i e h1 h2
    obtain ⟨h4, hc⟩ := condN_some hc
    obtain ⟨y, h3, rfl⟩ := mapX_some hc
    exact does_bstr hs hw (X_rel ht h3) h1 h2 (hu _ h4)
  · rename_i e h1 h2
    obtain ⟨h4, hc⟩ := condN_some hc
    obtain ⟨y, h3, rfl⟩ := mapX_some hc
    have hs' : strbV (y.ev tm) h = some (v, h') := hs
    refine does_strb hs' hw ?_ (X_rel ht h3) h1 h2 (hu _ h4)
    unfold strbV at hs'
    split at hs'
    · cases hs'; exact hf _ (Nat.le_refl _) (Nat.lt_succ_self _)
    · cases hs'
  · cases hc

theorem free1 {x : Obj} (hf : Free σ h.next (h.new x).next) : σ h.next = none := hf _ (Nat.le_refl _) (Nat.lt_succ_self _)

theorem step_sound {o : Oper} (hc : compOp P o.op = some c) (hs : stepO c tm h = some (v, h')) (ht : TRel σ m tm a.tmps) (hw : WRel σ m h w) (hf : Free σ h.next h'.next) : Does P σ m (execOp a.eval o) v h h' w := by
  obtain ⟨dst, op, ty, pos, after, guard⟩ := o
  simp only at hc
  cases op with
  | move x =>
    obtain ⟨y, h1, rfl⟩ := mapX_some hc
    cases hs
    exact ⟨a.eval x, w, σ, .inl rfl, X_rel ht h1, hw, Good.refl _ _ _⟩
  | assign x =>
    obtain ⟨y, h1, rfl⟩ := mapX_some hc
    cases hs
    exact ⟨a.eval x, w, σ, .inl rfl, X_rel ht h1, hw, Good.refl _ _ _⟩
  | pick x y z =>
    obtain ⟨p, q, r, h1, h2, h3, rfl⟩ := mapX3_some hc
    exact does_pick hs hw (X_rel ht h1) (X_rel ht h2) (X_rel ht h3)
  | alloc t =>
    simp only [compOp, allocO] at hc
    split at hc
    · rename_i z hz; cases hc; cases hs
      exact does_alloc hw (free1 hf) hz
    · cases hc
  | box t x =>
    obtain ⟨y, h1, rfl⟩ := mapX_some hc
    have hs' : boxL (y.ev tm).cells h = some (v, h') := hs
    refine does_box hs' hw ?_ (X_rel ht h1)
    unfold boxL at hs'
    obtain ⟨_, hs'⟩ := condN_some hs'
    cases hs'; exact free1 hf
  | build t ps =>
    obtain ⟨ps⟩ := ps
    simp only [compOp, buildO] at hc
    split at hc
    · rename_i fs hk
      obtain ⟨h1, hc⟩ := condN_some hc
      split at hc
      · rename_i z l hz hl
        cases hc
        exact does_buildS (r := []) ht hw hk h1 hz hl hs
      · cases hc
    · rename_i n e hk
      split at hc
      · rename_i n z l hn hz hl
        cases hc
        exact does_buildA ht hw hk hz hl hs hn
      · cases hc
    · cases hc
  | buildSlice t len ps =>
    obtain ⟨ps⟩ := ps
    simp only [compOp, litsO] at hc
    split at hc
    · rename_i e hk
      split at hc
      · rename_i n z l hn hz hl
        obtain ⟨h1, hc⟩ := condN_some hc
        cases hc
        simp only [Bool.and_eq_true] at h1
        have hs' : litsL n len (fillV l tm (rep z len)) h = some (v, h') := hs
        refine does_lits ht hw ?_ hk hn hz (Nat.eq_of_beq_eq_true h1.1) (Nat.le_of_ble_eq_true h1.2.1) (Nat.le_of_ble_eq_true h1.2.2) hl hs'
        obtain ⟨r, _, _, rfl, rfl⟩ := litsL_some hs'
        exact free1 hf
      · cases hc
    · cases hc
  | load t x =>
    simp only [compOp, loadO] at hc
    split at hc
    · rename_i n hn
      obtain ⟨y, h1, rfl⟩ := mapX_some hc
      exact does_load hs hw (X_rel ht h1) hn
    · cases hc
  | store t x y =>
    simp only [compOp, storeO] at hc
    split at hc
    · rename_i n hn
      obtain ⟨p, q, h1, h2, rfl⟩ := mapX2_some hc
      exact does_store hs hw (X_rel ht h1) (X_rel ht h2) hn
    · cases hc
  | nilCheck x =>
    obtain ⟨y, h1, rfl⟩ := mapX_some hc
    exact does_chk hs hw (X_rel ht h1) rfl rfl
  | binOp op t x y _ => exact sound_bin hc hs ht hw
  | unOp op t x =>
    simp only [compOp, unO] at hc
    split at hc
    · obtain ⟨y, h1, rfl⟩ := mapX_some hc
      exact does_not hs hw (X_rel ht h1)
    · obtain ⟨y, h1, rfl⟩ := mapX_some hc
      exact does_neg hs hw (X_rel ht h1)
    · cases hc
  | convert s t x => exact sound_conv hc hs ht hw hf
  | makeInterface t x =>
    simp only [compOp, ifaceO] at hc
    split at hc
    · cases hc
    · rename_i k hne hk
      obtain ⟨y, h1, rfl⟩ := mapX_some hc
      cases hs
      exact does_iface hw (X_rel ht h1) hk hne
    · cases hc
  | makeFunc f x y =>
    simp only [compOp, funcO] at hc
    split at hc
    · rename_i p q h1 h2
      cases hc; cases hs
      exact does_func hw (by simpa using Xs_rel ht h1) (by simpa using Xs_rel ht h2)
    · cases hc
  | makeMap t r =>
    cases r with
    | none => cases hc; cases hs; exact does_makeM hw (free1 hf)
    | some r => cases hc
  | makeSlice t l x =>
    simp only [compOp, makeSO] at hc
    split at hc
    · rename_i e hk
      split at hc
      · rename_i n b z hn hb hz
        obtain ⟨h1, hc⟩ := condN_some hc
        obtain ⟨p, q, h2, h3, rfl⟩ := mapX2_some hc
        rw [Bool.and_eq_true] at h1
        have hs' : makeSN n b z (natOf (p.ev tm)) (natOf (q.ev tm)) h = some (v, h') := hs
        refine does_makeS hw ?_ hk hn hb hz (Nat.eq_of_beq_eq_true h1.1) (Nat.le_of_ble_eq_true h1.2) hs' (fun j hj => natOf_rel hj (X_rel ht h2)) (fun j hj => natOf_rel hj (X_rel ht h3))
        unfold makeSN at hs'
        split at hs'
        · obtain ⟨_, hs'⟩ := condN_some hs'
          cases hs'; exact free1 hf
        · cases hs'
      · cases hc
    · cases hc
  | slice t x lo hi mx => exact sound_slice hc hs ht hw
  | fieldAddr s x f =>
    simp only [compOp, fieldAO] at hc
    split at hc
    · rename_i fs hk
      split at hc
      · rename_i off n hn
        cases hz : Nat.beq n 0 with
        | true => rw [hz] at hc; cases hc
        | false =>
          rw [hz] at hc
          obtain ⟨y, h1, rfl⟩ := mapX_some hc
          exact does_fieldA hs hw (X_rel ht h1) hk hn (fun e => by subst e; simp at hz)
      · cases hc
    · cases hc
  | field s x f =>
    simp only [compOp, fieldO] at hc
    split at hc
    · rename_i fs hk
      split at hc
      · rename_i g hg
        split at hc
        · rename_i n hn
          obtain ⟨y, h1, rfl⟩ := mapX_some hc
          exact does_field hs hw (X_rel ht h1) hk hg hn
        · cases hc
      · cases hc
    · cases hc
  | indexAddr t x i =>
    simp only [compOp, idxAO] at hc
    split at hc
    · rename_i e hk
      split at hc
      · rename_i n hn
        obtain ⟨p, q, h1, h2, rfl⟩ := mapX2_some hc
        exact does_idxA hs hw (X_rel ht h1) (X_rel ht h2) hk hn
      · cases hc
    · cases hc
  | index t x i =>
    simp only [compOp, idxO] at hc
    split at hc
    · rename_i hk
      obtain ⟨p, q, h1, h2, rfl⟩ := mapX2_some hc
      exact does_idxS hs hw (X_rel ht h1) (X_rel ht h2) hk
    · rename_i len e hk
      split at hc
      · rename_i n g hn hg
        obtain ⟨p, q, h1, h2, rfl⟩ := mapX2_some hc
        exact does_idxV hs hw (X_rel ht h1) (X_rel ht h2) hk hn hg
      · cases hc
    · cases hc
  | lookup t x k ok =>
    simp only [compOp, lookO] at hc
    split at hc
    · rename_i kt e hk
      split at hc
      · rename_i z ks hz hks
        obtain ⟨p, q, h1, h2, rfl⟩ := mapX2_some hc
        exact does_look hs hw (X_rel ht h1) (X_rel ht h2) hk hz hks
      · cases hc
    · cases hc
  | mapUpdate t x k y =>
    simp only [compOp, updO] at hc
    split at hc
    · rename_i kt e hk
      split at hc
      · rename_i ks hks
        obtain ⟨p, q, r, h1, h2, h3, rfl⟩ := mapX3_some hc
        exact does_upd hs hw (X_rel ht h1) (X_rel ht h2) (X_rel ht h3) hk hks
      · cases hc
    · cases hc
  | insert t x k y =>
    simp only [compOp, updO] at hc
    split at hc
    · rename_i kt e hk
      split at hc
      · rename_i ks hks
        obtain ⟨p, q, r, h1, h2, h3, rfl⟩ := mapX3_some hc
        exact does_upd hs hw (X_rel ht h1) (X_rel ht h2) (X_rel ht h3) hk hks
      · cases hc
    · cases hc
  | typeAssert x t t' ok =>
    simp only [compOp, assertO] at hc
    split at hc
    · cases hc
    · rename_i k z hne hk hz
      obtain ⟨y, h1, rfl⟩ := mapX_some hc
      exact does_assert hs hw (X_rel ht h1) hk hne hz
    · cases hc
  | extract x i =>
    obtain ⟨y, h1, rfl⟩ := mapX_some hc
    exact does_ext hs hw (X_rel ht h1)
  | call cl =>
    obtain ⟨callee, args, ts⟩ := cl
    simp only [compOp, callO] at hc
    split at hc
    · split at hc
      · cases hc; cases hs
      · cases hc
    · split at hc
      · cases hc; cases hs
      · cases hc
    · exact sound_builtin (ty := ty) (cs := _) hc hs ht hw hf
  | defer cl =>
    obtain ⟨callee, args, ts⟩ := cl
    simp only [compOp, deferO] at hc
    split at hc
    · split at hc
      · cases hc; cases hs
      · cases hc
    · cases hc
  | panic x =>
    obtain ⟨y, h1, rfl⟩ := mapX_some hc
    cases hs
  | _ => cases hc

end
end A
end Go.Proofs.YtcohlhplpogopaaGreat

namespace Go.Proofs.YtcohlhplpogopaaGreat
namespace A

section
variable {h h' : H} {v : V} {tm : TM} {c : O}


/-- by what a step returns. -/
def NX (h : H) (o : Option (V × H)) : Prop := ∀ v h', o = some (v, h') → h.next ≤ h'.next
theorem NX.none : NX h none := fun _ _ e => by cases e
theorem NX.same (v : V) : NX h (some (v, h)) := fun _ _ e => by cases e; exact Nat.le_refl _
theorem NX.new (v : V) (x : Obj) : NX h (some (v, h.new x)) := fun _ _ e => by cases e; exact Nat.le_succ _
theorem NX.set (v : V) (b : Nat) (x : Option Obj) : NX h (some (v, h.set b x)) := fun _ _ e => by cases e; exact Nat.le_refl _
theorem NX.kill (v : V) (b : Nat) (x : Option Obj) (y : Obj) : NX h (some (v, (h.set b x).new y)) := fun _ _ e => by cases e; exact Nat.le_succ _
theorem NX.cond {c : Bool} {o p : Option (V × H)} (h1 : NX h o) (h2 : NX h p) : NX h (cond c o p) := by cases c; exact h2; exact h1
theorem NX.okV (o : Option V) : NX h (okV h o) := by unfold A.okV; split; exact NX.same _; exact NX.none
theorem NX.okB (n : Bool) (o : Option Bool) : NX h (okB h n o) := by unfold A.okB; split; exact NX.same _; exact NX.none
theorem NX.okAgg (o : Option (List V)) : NX h (okAgg h o) := by unfold A.okAgg; split; exact NX.same _; exact NX.none
theorem NX.ifHas (o : Option Obj) (v : V) : NX h (ifHas o v h) := by unfold A.ifHas; split; exact NX.same _; exact NX.none

theorem put_next {p : V} {xs : List V} {h' : H} (e : h.put p xs = some h') : h'.next = h.next := by
  unfold H.put at e
  split at e
  · unfold putL at e
    split at e
    · obtain ⟨_, e⟩ := condN_some e
      cases e; rfl
    · cases e
  · cases e

theorem NX.okH {o : Option H} (ho : ∀ h', o = some h' → h'.next = h.next) : NX h (okH o) := by
  unfold A.okH; split
  · rename_i k; intro v h' e; cases e; exact Nat.le_of_eq (ho _ rfl).symm
  · exact NX.none
theorem NX.okLen {n : Nat} {o : Option H} (ho : ∀ h', o = some h' → h'.next = h.next) : NX h (okLen n o) := by
  unfold A.okLen; split
  · rename_i k; intro v h' e; cases e; exact Nat.le_of_eq (ho _ rfl).symm
  · exact NX.none

theorem NX.appendV (es b : Nat) (x y : V) : NX h (appendV es b x y h) := by
  unfold A.appendV; split
  · refine NX.cond ?_ NX.none
    unfold appTo; split
    · exact NX.cond (NX.same _) (NX.cond (NX.new _ _) NX.none)
    · exact NX.cond (NX.same _) NX.none
    · refine NX.cond ?_ NX.none
      unfold appSlc; split
      · refine NX.cond (NX.same _) ?_
        unfold appOld; split
        · unfold appCap; refine NX.cond ?_ NX.none
          unfold appCap0; split
          · exact NX.kill _ _ _ _
          · exact NX.cond (NX.cond (NX.set _ _ _) NX.none) (NX.new _ _)
        · exact NX.none
      · exact NX.none
    · exact NX.none
  · exact NX.none

theorem NX.partV (off : Nat) (n : Option Nat) (l : List V) : NX h (partV off n l h) := by
  unfold A.partV; split; exact NX.okV _; exact NX.okAgg _

theorem step_next (c : O) (tm : TM) (h : H) : NX h (stepO c tm h) := by
  cases c with
  | mov x => exact NX.same _
  | pick c a b => show NX h (pickV _ _ _ h); unfold pickV; split; exact NX.same _; exact NX.none
  | ar op x y => exact NX.okV _
  | eqB n x y => show NX h (eqBV _ _ _ h); unfold eqBV; split; exact NX.same _; exact NX.none
  | eqA n ks x y => show NX h (eqAV _ _ _ _ h); unfold eqAV; split; exact NX.okB _ _; exact NX.none
  | eqNil n k x => exact NX.cond (NX.okB _ _) NX.none
  | not x => show NX h (notV _ h); unfold notV; split; exact NX.same _; exact NX.none
  | neg x => show NX h (negV _ h); unfold negV; split; exact NX.same _; exact NX.none
  | conv k x => show NX h (convV _ _ h); unfold convV; split; exact NX.same _; exact NX.none
  | bstr x =>
    show NX h (bstrV _ h); unfold bstrV; split
    · exact NX.none
    · unfold bstrR; split
      · unfold okStr; split; exact NX.same _; exact NX.none
      · exact NX.none
  | strb x => show NX h (strbV _ h); unfold strbV; split; exact NX.new _ _; exact NX.none
  | alloc z => exact NX.new _ _
  | box x => exact NX.cond (NX.new _ _) NX.none
  | build z p => exact NX.okAgg _
  | lits es len z p => show NX h (litsL _ _ _ h); unfold litsL; split; exact NX.cond (NX.new _ _) NX.none; exact NX.none
  | load n x => show NX h (loadV _ _ h); unfold loadV; split; exact NX.okV _; exact NX.okAgg _
  | store n a x => exact NX.cond (NX.okH fun _ e => put_next e) NX.none
  | chk x => show NX h (chkV _ h); unfold chkV; split; exact NX.ifHas _ _; exact NX.same _; exact NX.same _; exact NX.none
  | fieldA o x => show NX h (fieldAV _ _ h); unfold fieldAV; split; exact NX.ifHas _ _; exact NX.same _; exact NX.none
  | field o n x => show NX h (fieldV _ _ _ h); unfold fieldV; split; exact NX.partV _ _ _; exact NX.none
  | idxA es x i =>
    show NX h (idxAV _ _ _ h); unfold idxAV; split
    · unfold idxAN; split; exact NX.cond (NX.ifHas _ _) NX.none; exact NX.cond (NX.same _) NX.none; exact NX.none
    · exact NX.none
  | idxS x i =>
    show NX h (idxSV _ _ h); unfold idxSV; split
    · unfold byteO; split; exact NX.same _; exact NX.none
    · exact NX.none
  | idxV len es n x i => show NX h (idxVV _ _ _ _ _ h); unfold idxVV; split; exact NX.cond (NX.partV _ _ _) NX.none; exact NX.none
  | len k x =>
    refine NX.cond ?_ NX.none
    unfold lenV; split
    · exact NX.same _
    · exact NX.same _
    · exact NX.same _
    · exact NX.same _
    · unfold lenM; split; exact NX.same _; exact NX.none
    · exact NX.none
  | app es b x y => exact NX.appendV _ _ _ _
  | copy es x y =>
    show NX h (copyV _ _ _ h); unfold copyV; split
    · unfold copyTo; split
      · exact NX.cond (NX.okLen fun _ e => put_next e) NX.none
      · exact NX.same _
      · exact NX.none
    · exact NX.none
  | slice es x lo hi => show NX h (sliceXV _ _ _ _ h); unfold sliceXV; split; exact NX.okV _; exact NX.okV _; exact NX.none
  | sliceS x lo hi =>
    show NX h (sliceSV _ _ _ _ h); unfold sliceSV; split
    · unfold sliceSN; split; exact NX.cond (NX.same _) NX.none; exact NX.none
    · exact NX.none
  | makeS es b z l c => show NX h (makeSN _ _ _ _ _ h); unfold makeSN; split; exact NX.cond (NX.new _ _) NX.none; exact NX.none
  | makeM => exact NX.new _ _
  | look ks z ok m k =>
    show NX h (lookV _ _ _ _ _ h); unfold lookV; split
    · unfold lookE; split
      · unfold lookR; split; exact NX.same _; exact NX.same _; exact NX.none
      · exact NX.none
    · exact NX.none
  | upd ks m k v =>
    show NX h (updV _ _ _ _ h); unfold updV; split
    · unfold updE; split
      · unfold updR; split; exact NX.set _ _ _; exact NX.none
      · exact NX.none
    · exact NX.none
  | iface t x => exact NX.same _
  | assert t z ok x => show NX h (assertV _ _ _ _ h); unfold assertV; split; exact NX.cond (NX.same _) (NX.cond (NX.same _) NX.none); exact NX.cond (NX.same _) NX.none; exact NX.none
  | func f a b => exact NX.same _
  | ext x i => show NX h (extV _ _ h); unfold extV; split; exact NX.okV _; exact NX.none
  | min x y => show NX h (minV _ _ h); unfold minV; split; exact NX.same _; exact NX.none
  | max x y => show NX h (maxV _ _ h); unfold maxV; split; exact NX.same _; exact NX.none
  | call f l => exact NX.none
  | inv t x l => exact NX.none
  | defer f l => exact NX.none
  | panic x => exact NX.none

def Out.hp : Out → H
  | .go st => st.h
  | .pan _ st => st.h

def Mono (call : Callee) : Prop := ∀ id vs h r h', call id vs h = some (r, h') → h.next ≤ h'.next

theorem outV_next {d : Option Nat} {st : St} {o : Option (V × H)} {out : Out} (ho : NX st.h o) (hs : outV d st o = some out) : st.h.next ≤ out.hp.next := by
  unfold outV at hs; split at hs
  · cases hs; exact ho _ _ rfl
  · cases hs

theorem outR_next {d : Option Nat} {st : St} {o : Option (Ret × H)} {out : Out} (ho : ∀ r h', o = some (r, h') → st.h.next ≤ h'.next) (hs : outR d st o = some out) : st.h.next ≤ out.hp.next := by
  unfold outR at hs; split at hs
  · cases hs; exact ho _ _ rfl
  · cases hs; exact ho _ _ rfl
  · cases hs

theorem act_silent {c : O} (hn : ∀ f l, c ≠ .call f l) (hn2 : ∀ t x l, c ≠ .inv t x l) (hn3 : ∀ f l, c ≠ .defer f l) (hn4 : ∀ x, c ≠ .panic x) (call : Callee) (d : Option Nat) (st : St) :
    act c call d st = outV d st (stepO c st.tm st.h) := by
  cases c <;> first
    | rfl
    | (exact absurd rfl (hn _ _))
    | (exact absurd rfl (hn2 _ _ _))
    | (exact absurd rfl (hn3 _ _))
    | (exact absurd rfl (hn4 _))

theorem act_next {call : Callee} (hc : Mono call) {c : O} {d : Option Nat} {st : St} {out : Out} (hs : act c call d st = some out) : st.h.next ≤ out.hp.next := by
  by_cases h1 : ∃ f l, c = .call f l
  · obtain ⟨f, l, rfl⟩ := h1
    have hs' : callT call d st (target (f.ev st.tm) (evs l st.tm)) = some out := hs
    unfold callT at hs'; split at hs'
    · exact outR_next (fun r h' e => hc _ _ _ _ _ e) hs'
    · cases hs'
  by_cases h2 : ∃ t x l, c = .inv t x l
  · obtain ⟨t, x, l, rfl⟩ := h2
    have hs' : invV t call d st (x.ev st.tm) (evs l st.tm) = some out := hs
    unfold invV at hs'; split at hs'
    · unfold callM at hs'; split at hs'
      · exact outR_next (fun r h' e => hc _ _ _ _ _ e) hs'
      · cases hs'
    · cases hs'
  by_cases h3 : ∃ f l, c = .defer f l
  · obtain ⟨f, l, rfl⟩ := h3
    have hs' : deferV d st (f.ev st.tm) (evs l st.tm) = some out := hs
    unfold deferV at hs'; split at hs'
    · cases hs'; exact Nat.le_refl _
    · cases hs'
  by_cases h4 : ∃ x, c = .panic x
  · obtain ⟨x, rfl⟩ := h4
    have hs' : panicV st (x.ev st.tm) = some out := hs
    unfold panicV at hs'; split at hs'
    · cases hs'; exact Nat.le_refl _
    · cases hs'
  rw [act_silent (fun f l e => h1 ⟨f, l, e⟩) (fun t x l e => h2 ⟨t, x, l, e⟩) (fun f l e => h3 ⟨f, l, e⟩) (fun x e => h4 ⟨x, e⟩)] at hs
  exact outV_next (step_next _ _ _) hs

theorem stepC_next {call : Callee} (hc : Mono call) {c : CO} {st : St} {out : Out} (hs : stepC call c st = some out) : st.h.next ≤ out.hp.next := by
  unfold stepC stepW at hs
  split at hs
  · exact act_next hc hs
  · cases hs; exact Nat.le_refl _
  · cases hs

theorem runOps_cons (o : CO) (l : List CO) (call : Callee) (st : St) : runOps (o :: l) call st = nextOps (runOps l) call (stepC call o st) := rfl

theorem runOps_next {call : Callee} (hc : Mono call) : ∀ {l : List CO} {st st' : St} {e : E}, runOps l call st = some (e, st') → st.h.next ≤ st'.h.next
  | [], st, st', e, hs => by cases (show some (E.nor, st) = some (e, st') from hs); exact Nat.le_refl _
  | o :: l, st, st', e, hs => by
    rw [runOps_cons] at hs
    unfold nextOps at hs
    split at hs
    · rename_i st1 h1
      exact Nat.le_trans (stepC_next hc h1) (runOps_next hc hs)
    · rename_i h1
      cases hs
      exact stepC_next hc h1
    · cases hs

def OutD.hp : OutD → H
  | .go st _ _ => st.h
  | .pan _ st _ _ => st.h

theorem hideAll_next : ∀ (ns : List Nat) (h : H), (hideAll ns h).next = h.next
  | [], _ => rfl
  | n :: ns, h => hideAll_next ns h
theorem backAll_next : ∀ (ns : List Nat) (h0 h : H), (backAll ns h0 h).next = h.next
  | [], _, _ => rfl
  | n :: ns, h0, h => backAll_next ns h0 h

theorem stepHW_next {hide : List Nat} {call : Callee} (hc : Mono call) {c : CO} {st : St} {w : Option Bool} {o : Out} (hs : stepHW hide call c st w = some o) : st.h.next ≤ o.hp.next := by
  unfold stepHW at hs
  split at hs
  · generalize hr : act c.o call c.d _ = r at hs
    cases r with
    | none => cases hs
    | some r =>
      have := act_next hc hr
      rw [show (hideAll (nums hide st.tm) st.h).next = st.h.next from hideAll_next _ _] at this
      cases r with
      | go st1 =>
        cases hs
        show _ ≤ (backAll _ _ _).next
        rw [backAll_next]; exact this
      | pan v st1 => cases hs; exact this
  · cases hs; exact Nat.le_refl _
  · cases hs

theorem runD_cons (p : Part × CO) (l : List (Part × CO)) : runD (p :: l) = dOne p.1 p.2 (runD l) := rfl

theorem runD_next {call : Callee} (hc : Mono call) : ∀ {l : List (Part × CO)} {st : St} {hs : List H} {rs : List Rec} {o : OutD}, runD l call st hs rs = some o → st.h.next ≤ o.hp.next
  | [], st, hs, rs, o, e => by cases (show some (OutD.go st (st.h :: hs) rs) = some o from e); exact Nat.le_refl _
  | ⟨p, c⟩ :: l, st, hs, rs, o, e => by
    rw [runD_cons] at e
    unfold dOne at e
    cases p with
    | loud last hide =>
      simp only [dLoud] at e
      split at e
      · rename_i st1 h1; exact Nat.le_trans (stepHW_next (o := .go st1) hc h1) (runD_next hc e)
      · rename_i h1; obtain ⟨_, e⟩ := condN_some e; cases e; exact stepHW_next (o := .pan _ _) hc h1
      · cases e
    | made =>
      simp only [dSilent] at e
      split at e
      · rename_i st1 h1; exact Nat.le_trans (stepC_next hc h1) (runD_next hc e)
      · cases e
    | pure =>
      simp only [dSilent] at e
      split at e
      · rename_i st1 h1; exact Nat.le_trans (stepC_next hc h1) (runD_next hc e)
      · cases e
    | read lo hi =>
      simp only [dRead] at e
      split at e
      · exact runD_next (st := ⟨setD c.d undefV st.tm, st.df, st.h⟩) hc e
      · unfold dReadV at e
        split at e
        · exact runD_next (st := ⟨setD c.d _ st.tm, st.df, st.h⟩) hc e
        · cases e
      · cases e

def MonoE (f : St → Option (E × St)) : Prop := ∀ st e st', f st = some (e, st') → st.h.next ≤ st'.h.next

theorem iter_next {f : St → Option (E × St)} (hf : MonoE f) : ∀ n, MonoE (iter n f)
  | 0 => fun st e st' h => by cases h
  | n + 1 => fun st e st' h => by
    have h' : iterN f (iter n) (f st) = some (e, st') := h
    unfold iterN at h'
    split at h'
    · rename_i st1 h1; exact Nat.le_trans (hf _ _ _ h1) (iter_next hf n _ _ _ h')
    · exact hf _ _ _ h'

theorem evC_next {ck : Ck} {call : Callee} (hc : Mono call) (n : Nat) : ∀ c : C, MonoE (evC c ck call n)
  | .skip => fun st e st' h => by cases (show some (E.nor, st) = some (e, st') from h); exact Nat.le_refl _
  | .reg l => fun st e st' h => runOps_next hc h
  | .regD l => fun st e st' h => by
    have h' : regR ck l st.tm (runD l call st [] []) = some (e, st') := h
    unfold regR at h'
    split at h'
    · rename_i h1; obtain ⟨_, h2⟩ := condN_some h'; cases h2; exact runD_next hc h1
    · rename_i h1; obtain ⟨_, h2⟩ := condN_some h'; cases h2; exact runD_next hc h1
    · cases h'
  | .seq a b => fun st e st' h => by
    have h' : seqR ck call n (evC b) (evC a ck call n st) = some (e, st') := h
    unfold seqR at h'
    split at h'
    · rename_i st1 h1; exact Nat.le_trans (evC_next hc n a _ _ _ h1) (evC_next hc n b _ _ _ h')
    · exact evC_next hc n a _ _ _ h'
  | .cond x a b => fun st e st' h => by
    have h' : condR (evC a) (evC b) ck call n st (x.ev st.tm) = some (e, st') := h
    generalize x.ev st.tm = xv at h'
    unfold condR at h'
    split at h'
    · rename_i t
      cases t with
      | false => exact evC_next hc n b _ _ _ h'
      | true => exact evC_next hc n a _ _ _ h'
    · cases h'
  | .block id c => fun st e st' h => by
    have h' : blockR id (evC c ck call n st) = some (e, st') := h
    unfold blockR at h'
    split at h'
    · rename_i id' st1 h1
      have := evC_next hc n c _ _ _ h1
      cases hb : Nat.beq id' id <;> rw [hb] at h' <;> cases h' <;> exact this
    · exact evC_next hc n c _ _ _ h'
  | .loop c => fun st e st' h => iter_next (evC_next hc n c) n st e st' h
  | .exit id => fun st e st' h => by cases (show some (E.ex id, st) = some (e, st') from h); exact Nat.le_refl _
  | .ret => fun st e st' h => by cases (show some (E.ret, st) = some (e, st') from h); exact Nat.le_refl _

end
end A
end Go.Proofs.YtcohlhplpogopaaGreat

namespace Go.Proofs.YtcohlhplpogopaaGreat
namespace A

def DRel1 (σ : Sg) (m : World) (d : D) (x : Deferred) : Prop :=
  ∃ id cs b, d.f = .fn (.func id) [] cs ∧ x.target = .fn (.func id) b ∧ LRel σ m cs b.toList ∧ LRel σ m d.args x.args.toList
def DRel (σ : Sg) (m : World) : List D → List Deferred → Prop
  | [], l => l = []
  | d :: ds, l => ∃ x r, l = x :: r ∧ DRel1 σ m d x ∧ DRel σ m ds r

theorem DRel.ext {σ σ' : Sg} {m : World} {lo hi : Nat} (he : Ext σ σ' lo hi) : ∀ {ds : List D} {l : List Deferred}, DRel σ m ds l → DRel σ' m ds l
  | [], _, h => h
  | d :: ds, _, h => by
    obtain ⟨x, r, rfl, ⟨id, cs, b, h1, h2, h3, h4⟩, h5⟩ := h
    exact ⟨x, r, rfl, ⟨id, cs, b, h1, h2, LRel.ext he _ _ h3, LRel.ext he _ _ h4⟩, DRel.ext he h5⟩

structure StRel (σ : Sg) (m : World) (nt : Nat) (st : St) (a : Go.Act) (w : World) : Prop where
  t : TRel σ m st.tm a.tmps
  d : DRel σ m st.df a.defers
  w : WRel σ m st.h w
  n : nt ≤ a.tmps.size

def one (x : Value) : List PanicEntry := [{ v := x, recovered := false }]

/-- how a call ends. -/
def EndR (σ : Sg) (m : World) (h : H) (w : World) (r : Ret) (h' : H) : Ending → World → Prop
  | .returned x, w' => ∃ v σ', r = .ok v ∧ VRel σ' m v x ∧ WRel σ' m h' w' ∧ Good σ σ' h h' w w'
  | .panicked ch, w' => ∃ v σ' x, r = .pan v ∧ ch = one x ∧ VRel σ' m v x ∧ WRel σ' m h' w' ∧ Good σ σ' h h' w w'
  | .outgrown, _ => False

def Enters (P : Program) (id : FuncId) : Prop := ∃ fn, P.funcs[id]? = some fn ∧ fn.name ≠ "runtime.NumGoroutine" ∧ fn.body ≠ none

structure CallOK (P : Program) (m : World) (call : Callee) : Prop where
  mono : Mono call
  enters : ∀ id vs h r h', call id vs h = some (r, h') → Enters P id
  calls : ∀ id vs h r h', call id vs h = some (r, h') → ∀ σ w (args : Array Value), LRel σ m vs args.toList → WRel σ m h w → Free σ h.next h'.next → Calls P id args w (EndR σ m h w r h')

section
variable {P : Program} {σ : Sg} {m w : World} {call : Callee}

theorem callFunc_run {id : FuncId} (he : Enters P id) (args : Array Value) (w : World) : (callFunc id args).run P w = .ok (.enter id args) w := by
  obtain ⟨fn, h1, h2, h3⟩ := he
  simp [callFunc, h1, h2, h3]

theorem StRel.put {nt : Nat} {st : St} {a : Go.Act} {d : Option Nat} {v : V} {x : Value} (h : StRel σ m nt st a w) (hd : okD nt d = true) (hv : VRel σ m v x) :
    StRel σ m nt ⟨setD d v st.tm, st.df, st.h⟩ (a.put d x) w := by
  cases d with
  | none => exact ⟨h.t, h.d, h.w, h.n⟩
  | some d =>
    have hlt : d < nt := blt_lt hd
    exact ⟨TRel.put h.t (Nat.lt_of_lt_of_le hlt h.n) hv, h.d, h.w, by simpa [Act.put] using h.n⟩

theorem StRel.move {nt : Nat} {st : St} {a : Go.Act} {σ' : Sg} {h' : H} {w' : World} (h : StRel σ m nt st a w) (hg : Good σ σ' st.h h' w w') (hw : WRel σ' m h' w') : StRel σ' m nt ⟨st.tm, st.df, h'⟩ a w' :=
  ⟨TRel.ext h.t hg.ext, DRel.ext hg.ext h.d, hw, h.n⟩

/-- what an operation of a region asks for. -/
def OpWp (P : Program) (ops : Array Oper) (o : Oper) (a : Go.Act) (w : World) (next : Go.Act → World → Prop) (Q : Exit → Go.Act → World → Prop) : Prop :=
  if Region.wanted o (yielded ops a.tmps) then o.wp P a w next Q ∨ (o.asks P a w ∧ LetsOut Q) else next (a.put o.dst undef) w

def OutR (σ : Sg) (m : World) (nt : Nat) (h : H) (a : Go.Act) (w : World) (out : Out) (next : Go.Act → World → Prop) (Q : Exit → Go.Act → World → Prop) : Prop :=
  match out with
  | .go st' => ∀ σ' a' w', StRel σ' m nt st' a' w' → Good σ σ' h st'.h w w' → next a' w'
  | .pan v st' => ∀ σ' x w', VRel σ' m v x → StRel σ' m nt st' a w' → Good σ σ' h st'.h w w' → Q (.panic (one x)) a w'

theorem wanted_rel {ops : Array Oper} {o : Oper} {g : Option (Nat × Bool)} {tm : TM} {tmps : Array Value} {b : Bool} (hg : compG ops.toList o.guard = some g) (ht : TRel σ m tm tmps) (hs : wanted g tm = some b) :
    Region.wanted o (yielded ops tmps) = b := by
  unfold Region.wanted
  unfold compG at hg
  split at hg
  · rename_i e; rw [e]; cases hg; cases hs; rfl
  · rename_i j wt e
    rw [e]
    split at hg
    · rename_i oj hj
      split at hg
      · rename_i t hdst
        cases hg
        have hs' : wantV (tm.nth t) wt = some b := hs
        have hr := ht t
        have hy : yielded ops tmps j = (match tmps[t]? with | some (.bool b) => some b | _ => none) := by
          have hj' : ops[j]? = some oj := by simpa using hj
          simp only [yielded, hj', Option.bind_some, hdst]
          rfl
        simp only
        rw [hy]
        have hgd : tmps.getD t undef = (tmps[t]?).getD undef := by simp
        unfold wantV at hs'
        split at hs'
        · rename_i p hp
          rw [hp] at hr
          have e := litV_rel hr
          cases hs'
          rw [hgd] at e
          cases ho : tmps[t]? with
          | none => rw [ho] at e; cases e
          | some z => rw [ho] at e; simp only [Option.getD_some] at e; subst e; cases p <;> cases wt <;> rfl
        · rename_i p hp
          rw [hp] at hr
          have e := litV_rel hr
          cases hs'
          rw [hgd] at e
          cases ho : tmps[t]? with
          | none => rfl
          | some z => rw [ho] at e; simp only [Option.getD_some] at e; subst e; rfl
        · cases hs'
      · cases hg
    · cases hg

theorem mkCO_some {d : Option Nat} {nt : Nat} {o : Option O} {g : Option (Option (Nat × Bool))} {c : CO} (h : mkCO d nt o g = some c) : o = some c.o ∧ g = some c.g ∧ c.d = d ∧ okD nt d = true := by
  unfold mkCO at h
  split at h
  · obtain ⟨h1, h2⟩ := condN_some h
    cases h2; exact ⟨rfl, rfl, rfl, h1⟩
  · cases h

/- methods -/
theorem assoc_append {t : TypeId} : ∀ {l k : List (TypeId × FuncId)} {f : FuncId}, assoc t (l ++ k) = some f → assoc t l = some f ∨ assoc t k = some f
  | [], _, _, h => .inr h
  | p :: l, k, f, h => by
    have h' : cond (Nat.beq p.1 t) (some p.2) (assoc t (l ++ k)) = some f := h
    show cond (Nat.beq p.1 t) (some p.2) (assoc t l) = some f ∨ _
    cases hb : Nat.beq p.1 t with
    | true => rw [hb] at h'; exact .inl h'
    | false => rw [hb] at h'; exact assoc_append h'

def MethAt (P : Program) (name : String) (t : TypeId) (f : FuncId) (ms : List Method) : Prop :=
  ∃ mt k, ms.find? (·.name == name) = some mt ∧ mt.path.toList = [] ∧ mt.func = some (f, false) ∧ kindP P t = some k ∧ k ≠ .pointer

theorem methOf_some {name : String} {t t' : TypeId} {f : FuncId} {ms : List Method} (h : assoc t' (methOf P name t ms) = some f) : t' = t ∧ MethAt P name t f ms := by
  unfold methOf at h
  split at h
  · rename_i mt hm
    split at h
    · rename_i f' k hp hf hk
      have hne : k ≠ .pointer ∧ assoc t' [(t, f')] = some f := by
        split at h
        · cases h
        · cases h
        · rename_i h1 _; exact ⟨fun e => h1 e, h⟩
      obtain ⟨h1, h2⟩ := hne
      have h2' : cond (Nat.beq t t') (some f') none = some f := h2
      obtain ⟨h3, h4⟩ := condN_some h2'
      cases h4
      exact ⟨(Nat.eq_of_beq_eq_true h3).symm, mt, k, hm, hp, hf, hk, h1⟩
    · cases h
  · cases h

theorem methsOf_some {name : String} {t : TypeId} {f : FuncId} : ∀ {l : List TypeInfo} {n : Nat}, assoc t (methsOf P name l n) = some f → ∃ j i, t = n + j ∧ l[j]? = some i ∧ MethAt P name t f i.methods.toList
  | [], _, h => by cases h
  | i :: l, n, h => by
    rcases assoc_append (l := methOf P name n i.methods.toList) (k := methsOf P name l (n + 1)) h with h1 | h1
    · obtain ⟨rfl, h2⟩ := methOf_some h1
      exact ⟨0, i, rfl, rfl, h2⟩
    · obtain ⟨j, i', e, h2, h3⟩ := methsOf_some h1
      exact ⟨j + 1, i', by rw [e, Nat.add_assoc, Nat.add_comm 1 j], by simpa using h2, h3⟩

theorem method_run {name : String} {t : TypeId} {f : FuncId} {x : Value} (h : assoc t (methsOf P name P.types.toList 0) = some f) (w : World) :
    ((do method ((← program).types.size + Made.depth) t x name) : Sem (FuncId × Value)).run P w = .ok (f, x) w := by
  obtain ⟨j, i, e, h1, mt, k, h2, h3, h4, h5, h6⟩ := methsOf_some h
  rw [Nat.zero_add] at e; subst e
  have hi : P.types[t]? = some i := by simpa using h1
  have hlt : t < P.types.size := (Array.getElem?_eq_some_iff.1 hi).1
  obtain ⟨d, hu, hd⟩ := kindP_some h5
  have hnp : ∀ e, d ≠ .pointer e := by rintro e rfl; exact h6 hd.symm
  obtain ⟨n, hn⟩ : ∃ n, P.types.size + Made.depth = n + 1 := ⟨P.types.size + Made.depth - 1, (Nat.succ_pred_eq_of_pos (Nat.lt_of_lt_of_le (Nat.lt_of_le_of_lt (Nat.zero_le _) hlt) (Nat.le_add_right _ _))).symm⟩
  have hmeth : i.methods.find? (·.name == name) = some mt := by rw [← Array.find?_toList]; exact h2
  have hinfo : P.info? t = some i := by
    show P.toTables.info? t = some i
    unfold Tables.info?
    rw [if_pos hlt]; exact hi
  have hrecv : ∀ wr, (receiverAt t (.val x) false wr).run P w = .ok x w := by
    intro wr
    unfold receiverAt
    simp only [Sem.run_bind, run_und hu, Result.andThen_ok]
    cases d <;> first | exact absurd rfl (hnp _) | rfl
  have hm : (method (n + 1) t x name).run P w = .ok (f, x) w := by
    have hi' : P.toTables.info? t = some i := hinfo
    unfold method
    simp [typeInfo, hi', hmeth, h3, h4, follow, hrecv]
  rw [← hn] at hm
  show (method (P.types.size + Made.depth) t x name).run P w = _
  exact hm

end
end A
end Go.Proofs.YtcohlhplpogopaaGreat

