/-
  slices, bytes, appending. (No statement of the seat is proved here.)
-/
import Derived.Test.YtcohlhplpogopaaGreatGb
set_option linter.unusedSimpArgs false
set_option linter.unusedVariables false
namespace Go.Proofs.YtcohlhplpogopaaGreat
namespace A

section
variable {P : Program} {σ : Sg} {m w : World} {h h' : H}

theorem does_func {f : Fn} {a b : List V} {x y : Array Value} (hw : WRel σ m h w) (ha : LRel σ m a x.toList) (hb : LRel σ m b y.toList) : Does P σ m (do pure (.value (← Instr.makeFunc f x y))) (.fn f a b) h h w :=
  .same (x := .func f x y) hw rfl (by simp only [VRel]; exact ⟨x, y, rfl, ha, hb⟩)

theorem size_data (s : ByteArray) : s.size = s.data.toList.length := by rcases s with ⟨⟨l⟩⟩; rfl

theorem does_len {t u' : TypeId} {u v : V} {x : Value} (hs : lenV u h = some (v, h')) (hw : WRel σ m h w) (ha : VRel σ m u x)
    (hk : kindP P t = some .string ∨ (∃ e, kindP P t = some (.slice e)) ∨ ∃ k e, kindP P t = some (.map k e))
    (hfit : (∀ s, x = .string s → kindP P t = some .string) ∧ (∀ a n c, x = .slice a n c → ∃ e, kindP P t = some (.slice e)) ∧ (∀ r, x = .map r → ∃ k e, kindP P t = some (.map k e))) :
    Does P σ m (do pure (.value (← Builtin.len_ #[t] u' #[x]))) v h h' w := by
  have hstr : ∀ s : ByteArray, x = .string s → (Builtin.len_ #[t] u' #[x]).run P w = .ok (.int .i64 s.size) w := by
    intro s e
    obtain ⟨d, e1, e2⟩ := kindP_some (hfit.1 s e); have := tk_string e2; subst this; subst e
    simp [Builtin.len_, run_und e1, goInt]
  have hsl : ∀ a n c, x = .slice a n c → (Builtin.len_ #[t] u' #[x]).run P w = .ok (.int .i64 n) w := by
    intro a n c e
    obtain ⟨el, hk'⟩ := hfit.2.1 a n c e
    obtain ⟨d, e1, e2⟩ := kindP_some hk'; have := tk_slice e2; subst this; subst e
    simp [Builtin.len_, run_und e1, goInt]
  unfold lenV at hs
  split at hs
  · have e := litV_rel ha
    cases hs
    exact .same hw (hstr _ e) (by simp only [litI, VRel, size_data]; rfl)
  · have e := litV_rel ha
    cases hs
    exact .same hw (hsl _ _ _ e) (by simp only [litI, VRel]; rfl)
  · cases hs
    obtain ⟨_, _, e⟩ := slc_shape ha
    exact .same hw (hsl _ _ _ e) (by simp only [litI, VRel]; rfl)
  · cases hs
    simp only [VRel] at ha
    obtain ⟨blk, q, sp, c, e, _⟩ := ha
    exact .same hw (hsl _ _ _ e) (by simp only [litI, VRel]; rfl)
  · rename_i b
    unfold lenM at hs
    split at hs
    · rename_i es he
      cases hs
      obtain ⟨blk, hσ, e, a, k, hb, her⟩ := map_live hw ha (mapOf_some he)
      obtain ⟨kt, et, hk'⟩ := hfit.2.2 _ e
      obtain ⟨d, e1, e2⟩ := kindP_some hk'; have := tk_map e2; subst this; subst e
      refine .same (x := .int .i64 a.size) hw ?_ ?_
      · simp [Builtin.len_, run_und e1, goInt, getObj, Sem.run, hb]
      · have := her.length
        simp only [litI, VRel]
        rw [← this]; simp
    · cases hs
  · cases hs

theorem sliceSlc_cases {b off len es l hi : Nat} {cap : Option Nat} {v : V} (hs : sliceSlc b off len es cap l hi = some v) :
    l ≤ hi ∧ hi ≤ cap.getD len ∧ ((l = 0 ∧ v = .slc b off hi es cap) ∨
      (l ≠ 0 ∧ ((∃ c, cap = some c ∧ l = c ∧ v = .slc b off 0 es (some 0)) ∨ (∃ c, cap = some c ∧ l ≠ c ∧ v = .slc b (off + l * es) (hi - l) es (some (c - l))) ∨
        (cap = none ∧ l < len ∧ v = .slc b (off + l * es) (hi - l) es none) ∨ (cap = none ∧ ¬ l < len ∧ v = .rs [] 0)))) := by
  unfold sliceSlc at hs
  cases hc : (Nat.ble l hi && Nat.ble hi (cap.getD len)) with
  | false => rw [hc] at hs; cases hs
  | true =>
    rw [hc] at hs
    rw [Bool.and_eq_true] at hc
    refine ⟨Nat.le_of_ble_eq_true hc.1, Nat.le_of_ble_eq_true hc.2, ?_⟩
    simp only [cond_true] at hs
    cases h0 : Nat.beq l 0 with
    | true =>
      rw [h0] at hs; cases hs
      exact .inl ⟨Nat.eq_of_beq_eq_true h0, rfl⟩
    | false =>
      rw [h0] at hs
      refine .inr ⟨(fun e => by subst e; cases h0), ?_⟩
      simp only [cond_false, sliceCap] at hs
      split at hs
      · rename_i c
        cases h1 : Nat.beq l c with
        | true => rw [h1] at hs; cases hs; exact .inl ⟨c, rfl, Nat.eq_of_beq_eq_true h1, rfl⟩
        | false => rw [h1] at hs; cases hs; exact .inr (.inl ⟨c, rfl, (fun e => by subst e; simp at h1), rfl⟩)
      · cases h1 : Nat.blt l len with
        | true => rw [h1] at hs; cases hs; exact .inr (.inr (.inl ⟨rfl, blt_lt h1, rfl⟩))
        | false => rw [h1] at hs; cases hs; exact .inr (.inr (.inr ⟨rfl, (fun e => by rw [show Nat.blt l len = true from Nat.ble_eq_true_of_le e] at h1; cases h1), rfl⟩))

/-- the bounds of a slice expression, run. -/
theorem run_bounds {isS : Bool} {len cap l hi : Nat} {lo : Option Value} {hv : Option Value} (h1 : l ≤ hi) (h2 : hi ≤ cap) (hlo : (lo = none ∧ l = 0) ∨ ∃ k, lo = some (.int k (l : Int)))
    (hhi : (hv = none ∧ hi = len) ∨ ∃ k, hv = some (.int k (hi : Int))) : (Instr.sliceBounds isS len cap lo hv none).run P w = .ok (l, hi, cap) w := by
  have b : ∀ (k : IntKind) (n y : Nat) (code : BoundsCode), n ≤ y → (Instr.sliceBound (.int k (n : Int)) y code).run P w = .ok n w := by
    intro k n y code hn
    simp [Instr.sliceBound, asIntOf, hn, Nat.not_lt.2 hn]
  unfold Instr.sliceBounds
  rcases hlo with ⟨rfl, rfl⟩ | ⟨k, rfl⟩ <;> rcases hhi with ⟨rfl, rfl⟩ | ⟨k', rfl⟩ <;> simp [b _ _ _ _ h1, b _ _ _ _ h2]

theorem does_sliceV {t e : TypeId} {n l : Nat} {hi : Option Nat} {u v : V} {x : Value} {lo hv : Option Value} (hs : sliceV h n u l hi = some v) (hw : WRel σ m h w) (ha : VRel σ m u x) (hk : kindP P t = some (.slice e))
    (hn : sizeP P e = some n) (hlo : (lo = none ∧ l = 0) ∨ ∃ k, lo = some (.int k (l : Int))) (hhi : (hv = none ∧ hi = none) ∨ ∃ k j, hi = some j ∧ hv = some (.int k (j : Int))) :
    Does P σ m (do pure (.value (← Instr.sliceAt t x lo hv none))) v h h w := by
  obtain ⟨d, e1, e2⟩ := kindP_some hk; have := tk_slice e2; subst this
  have key : ∀ (a : Option Addr) (len cap r : Nat), x = .slice a len cap → r = hi.getD len → l ≤ r → r ≤ cap →
      (Instr.sliceAt t x lo hv none).run P w = .ok (.slice (if cap = l then a else a.map (·.add (l * n))) (r - l) (cap - l)) w := by
    intro a len cap r hx hr h1 h2
    subst hx
    have hb := run_bounds (P := P) (w := w) (isS := true) (len := len) (cap := cap) (l := l) (hi := r) (lo := lo) (hv := hv) h1 h2 hlo
      (by rcases hhi with ⟨e3, e4⟩ | ⟨k, j, e3, e4⟩
          · exact .inl ⟨e3, by rw [hr, e4]; rfl⟩
          · exact .inr ⟨k, by rw [e4, hr, e3]; rfl⟩)
    simp only [Instr.sliceAt, Sem.run_bind, run_und e1, Result.andThen_ok, Instr.slice, hb, sizeP_run hn, Sem.run_pure]
  unfold sliceV at hs
  split at hs
  · rename_i b off len es' cap
    cases hc : Nat.beq n es' with
    | false => rw [hc] at hs; cases hs
    | true =>
      rw [hc] at hs
      have hee := Nat.eq_of_beq_eq_true hc; subst hee
      simp only [cond_true, ifLive] at hs
      split at hs
      · rename_i ob hob
        obtain ⟨blk, q, size, ll, c, hg, hσ, hx, hlc, hsz, hcap, hl⟩ := slc_live hw ha hob
        obtain ⟨h1, h2, hcase⟩ := sliceSlc_cases hs
        have hgd : cap.getD len ≤ c := by
          cases cap with
          | none => simpa using hlc
          | some k => rw [hcap k rfl]; exact Nat.le_refl _
        have hr := key (some ⟨blk, q + off, none⟩) len c (hi.getD len) hx rfl h1 (by omega)
        rcases hcase with ⟨rfl, rfl⟩ | ⟨hl0, hcase⟩
        · refine .same hw hr ?_
          simp only [VRel, SRel, hσ, Nat.zero_mul, Nat.sub_zero]
          refine ⟨c, ?_, by omega, hsz, hcap⟩
          split
          · rfl
          · simp [add_none]
        · rcases hcase with ⟨c', hc1, hc2, rfl⟩ | ⟨c', hc1, hc2, rfl⟩ | ⟨hc1, hc2, rfl⟩ | ⟨hc1, hc2, rfl⟩
          · have := hcap c' hc1
            subst this; subst hc2
            refine .same hw hr ?_
            simp only [VRel, SRel, hσ, if_true, Nat.sub_self]
            rw [hc1] at h2
            simp only [Option.getD_some] at h2
            exact ⟨0, by rw [show hi.getD len - l = 0 from by omega], Nat.le_refl _, by have : l * n ≤ l * n := Nat.le_refl _; omega, fun j e => by cases e; rfl⟩
          · have := hcap c' hc1
            subst this
            refine .same hw hr ?_
            simp only [VRel, SRel, hσ, if_neg (Ne.symm hc2)]
            rw [hc1] at h2
            simp only [Option.getD_some] at h2
            refine ⟨c - l, by simp [add_none, Nat.add_assoc], by omega, ?_, fun j e => by cases e; rfl⟩
            have : c * n = l * n + (c - l) * n := by rw [← Nat.add_mul]; congr 1; omega
            omega
          · refine .same hw hr ?_
            have hcl : c ≠ l := by omega
            simp only [VRel, SRel, hσ, if_neg hcl]
            refine ⟨c - l, by simp [add_none, Nat.add_assoc], by omega, ?_, fun j e => by cases e⟩
            have : c * n = l * n + (c - l) * n := by rw [← Nat.add_mul]; congr 1; omega
            omega
          · refine .same hw hr ?_
            rw [hc1] at h2
            simp only [Option.getD_none] at h2
            have hz : hi.getD len - l = 0 := by omega
            simp only [VRel, hz, CRel, true_and, or_true, and_true]
            split
            · exact ⟨blk, q + off, none, c - l, rfl, by omega⟩
            · exact ⟨blk, q + off + l * n, none, c - l, by simp [add_none], by omega⟩
      · cases hs
  · rename_i cells len
    simp only [VRel] at ha
    obtain ⟨blk, q, sp, c, hx, hlc, hcr, hsp⟩ := ha
    unfold sliceRs at hs
    cases hc : (Nat.ble l (hi.getD len) && Nat.ble (hi.getD len) len) with
    | false => rw [hc] at hs; cases hs
    | true =>
      rw [hc] at hs
      rw [Bool.and_eq_true] at hc
      have h1 := Nat.le_of_ble_eq_true hc.1
      have h2 := Nat.le_of_ble_eq_true hc.2
      have hr := key (some ⟨blk, q, sp⟩) len c (hi.getD len) hx rfl h1 (by omega)
      simp only [cond_true] at hs
      cases h0 : Nat.beq l 0 with
      | true =>
        rw [h0] at hs; cases hs
        have := Nat.eq_of_beq_eq_true h0; subst this
        refine .same hw hr ?_
        simp only [VRel, Nat.zero_mul, Nat.sub_zero]
        refine ⟨blk, q, sp, c, ?_, by omega, hcr.take _, hsp.imp id (fun e => by omega)⟩
        split
        · rfl
        · simp [Addr.add]
      | false =>
        rw [h0] at hs
        simp only [cond_false] at hs
        cases hb : Nat.blt l len with
        | true =>
          rw [hb] at hs; cases hs
          have hlt := blt_lt hb
          refine .same hw hr ?_
          have hcl : c ≠ l := by omega
          obtain rfl : sp = none := hsp.resolve_right (by omega)
          simp only [VRel, if_neg hcl, Nat.mul_eq, Nat.sub_eq]
          exact ⟨blk, q + l * n, none, c - l, by simp [add_none], by omega, (hcr.drop _).take _, .inl rfl⟩
        | false =>
          rw [hb] at hs; cases hs
          have hge : ¬ l < len := fun e => by rw [show Nat.blt l len = true from Nat.ble_eq_true_of_le e] at hb; cases hb
          have hz : hi.getD len - l = 0 := by omega
          refine .same hw hr ?_
          simp only [VRel, hz, CRel, true_and, or_true, and_true]
          split
          · exact ⟨blk, q, sp, c - l, rfl, by omega⟩
          · by_cases e0 : l * n = 0
            · exact ⟨blk, q, sp, c - l, by simp [Addr.add, e0], by omega⟩
            · exact ⟨blk, q + l * n, none, c - l, by simp [Addr.add, e0], by omega⟩
  · have hx := litV_rel ha
    cases hc : (Nat.beq (hi.getD 0) 0 && Nat.beq l 0) with
    | false => rw [hc] at hs; cases hs
    | true =>
      rw [hc] at hs; cases hs
      rw [Bool.and_eq_true] at hc
      have h1 := Nat.eq_of_beq_eq_true hc.1
      have h2 := Nat.eq_of_beq_eq_true hc.2
      have hr := key none 0 0 0 hx h1.symm (by omega) (Nat.le_refl _)
      refine .same hw hr ?_
      simp only [VRel]
      subst h2; simp
  · cases hs

theorem does_sliceS {t : TypeId} {s : ByteArray} {l hi : Option Nat} {v : V} {x : Value} {lo hv : Option Value} (hs : sliceSN s.data.toList l hi h = some (v, h')) (hw : WRel σ m h w) (hx : x = .string s)
    (hk : kindP P t = some .string) (hlo : ∀ n, l = some n → (lo = none ∧ n = 0) ∨ ∃ k, lo = some (.int k (n : Int)))
    (hhi : ∀ n, hi = some n → (hv = none ∧ n = s.data.toList.length) ∨ ∃ k, hv = some (.int k (n : Int))) : Does P σ m (do pure (.value (← Instr.sliceAt t x lo hv none))) v h h' w := by
  obtain ⟨d, e1, e2⟩ := kindP_some hk; have := tk_string e2; subst this
  unfold sliceSN at hs
  split at hs
  · rename_i a b
    cases hc : (Nat.ble a b && Nat.ble b s.data.toList.length) with
    | false => rw [hc] at hs; cases hs
    | true =>
      rw [hc] at hs; cases hs
      rw [Bool.and_eq_true] at hc
      have h1 := Nat.le_of_ble_eq_true hc.1
      have h2 := Nat.le_of_ble_eq_true hc.2
      subst hx
      have hb := run_bounds (P := P) (w := w) (isS := false) (len := s.size) (cap := s.size) (l := a) (hi := b) (lo := lo) (hv := hv) h1 (by rw [size_data]; exact h2) (hlo a rfl) (by rw [size_data]; exact hhi b rfl)
      refine .same (x := .string (s.extract a b)) hw ?_ ?_
      · simp only [Instr.sliceAt, Sem.run_bind, run_und e1, Result.andThen_ok, Instr.slice, Option.isSome_none, Bool.false_eq_true, if_false, hb, Sem.run_pure, pure_bind]
      · simp only [VRel, Value.string.injEq, Nat.sub_eq]
        rcases s with ⟨⟨q⟩⟩
        apply ByteArray.ext
        rw [ByteArray.data_extract]
        simp [List.extract]
  · cases hs

/- new memory -/
theorem zcells_some {z : Value} {l : List V} (hs : zcells z = some l) : l = z.cells.toList.map .lit ∧ z.cells.toList.all Value.atom = true := by
  unfold zcells at hs
  cases hc : z.cells.toList.all Value.atom with
  | false => rw [hc] at hs; cases hs
  | true => rw [hc] at hs; cases hs; exact ⟨rfl, rfl⟩
theorem zeroC_some {t : TypeId} {l : List V} (hs : zeroC P t = some l) : ∃ z, zeroP P t = some z ∧ LRel σ m l z.cells.toList ∧ allAtoms l = true := by
  unfold zeroC at hs
  split at hs
  · rename_i z hz
    obtain ⟨rfl, ha⟩ := zcells_some hs
    refine ⟨z, hz, lits_rel _, ?_⟩
    rw [allAtoms_iff]
    intro v hv
    obtain ⟨y, hy, rfl⟩ := List.mem_map.1 hv
    exact (List.all_eq_true.1 ha) y hy
  · cases hs

theorem nf0 (n : Nat) : ∀ i, i < n → ¬ (((0, 0) : Nat × Nat).1 ≤ i ∧ i < ((0, 0) : Nat × Nat).2) := fun i _ hh => Nat.not_lt_zero i hh.2

/-- a new row of cells. -/
theorem new_row {l : List V} {c : Array Value} {e : TypeId} (hw : WRel σ m h w) (hf : σ h.next = none) (hr : LRel σ m l c.toList) (ha : allAtoms l = true) :
    (newRow e c).run P w = .ok ⟨w.heap.size, 0, none⟩ (pushW w (.cells c e)) ∧ WRel (upd σ h.next (.at w.heap.size 0 c.size)) m (h.new (.cells l)) (pushW w (.cells c e)) ∧
      Good σ (upd σ h.next (.at w.heap.size 0 c.size)) h (h.new (.cells l)) w (pushW w (.cells c e)) := by
  have hl := hr.length
  have hp := hw.pushCells hf (l := l) (c := c) (e := e) (fr := (0, 0)) (by rw [← hl]; simp) (nf0 _) (by rw [← hl, List.take_length]; exact hr) ha (fun hh => absurd hh.2 (Nat.not_lt_zero _))
  exact ⟨rfl, hp.1, hp.2⟩

theorem does_alloc {t : TypeId} {l : List V} (hw : WRel σ m h w) (hf : σ h.next = none) (hz : zeroC P t = some l) :
    Does P σ m (do pure (.value (← Instr.alloc t true (.tuple #[])))) (.ptr h.next 0) h (h.new (.cells l)) w := by
  obtain ⟨z, hz1, hz2, hz3⟩ := zeroC_some (σ := σ) (m := m) hz
  obtain ⟨h1, h2, h3⟩ := new_row (P := P) (e := t) hw hf hz2 hz3
  refine .of_run (x := .pointer (some ⟨w.heap.size, 0, none⟩)) ?_ ?_ h2 h3
  · simp only [Instr.alloc, Sem.run_bind, zeroP_run hz1, Result.andThen_ok, newVar, h1]; rfl
  · simp only [VRel, PRel, upd, if_true]

theorem does_box {t : TypeId} {u v : V} {x : Value} (hs : boxL u.cells h = some (v, h')) (hw : WRel σ m h w) (hf : σ h.next = none) (ha : VRel σ m u x) :
    Does P σ m (do pure (.value (← Instr.box t x))) v h h' w := by
  unfold boxL at hs
  cases hc : allAtoms u.cells with
  | false => rw [hc] at hs; cases hs
  | true =>
    rw [hc] at hs; cases hs
    obtain ⟨h1, h2, h3⟩ := new_row (P := P) (e := t) hw hf (cells_atoms ha hc) hc
    refine .of_run (x := .pointer (some ⟨w.heap.size, 0, none⟩)) ?_ ?_ h2 h3
    · simp only [Instr.box, Sem.run_bind, newVar, h1, Result.andThen_ok]; rfl
    · simp only [VRel, PRel, upd, if_true]

theorem does_makeM {t : TypeId} (hw : WRel σ m h w) (hf : σ h.next = none) : Does P σ m (do pure (.value (← Instr.makeMap t none))) (.map h.next) h (h.new (.mp [])) w := by
  obtain ⟨h2, h3⟩ := hw.pushMap hf
  exact .of_run (x := .map (some w.heap.size)) rfl (by simp only [VRel]; exact ⟨_, by simp [upd], rfl⟩) h2 h3

/- values built of parts -/
theorem fold_cells {cs : Array Value} {off : Nat} (v : Value) (hl : off + v.cells.size ≤ cs.size) :
    (v.cells.zipIdx.foldl (fun cs (c, j) => cs.setIfInBounds (off + j) c) cs).toList = cs.toList.take off ++ v.cells.toList ++ cs.toList.drop (off + v.cells.size) := by
  have e1 : v.cells.zipIdx.foldl (fun cs (x : Value × Nat) => cs.setIfInBounds (off + x.2) x.1) cs = (v.cells.toList.zipIdx 0).foldl (fun cs (x : Value × Nat) => cs.setIfInBounds (off + x.2) x.1) cs := by
    rw [← Array.foldl_toList]; simp
  obtain ⟨h1, h2⟩ := Go.Great.foldl_set off v.cells.toList 0 cs
  show (v.cells.zipIdx.foldl (fun cs (x : Value × Nat) => cs.setIfInBounds (off + x.2) x.1) cs).toList = _
  rw [e1]
  apply List.ext_getElem?
  intro i
  have h3 := h2 i
  simp only [Nat.add_zero, Array.length_toList] at h3
  rw [Array.getElem?_toList, h3]
  have hsz : v.cells.toList.length = v.cells.size := by simp
  simp only [List.getElem?_append, List.length_append, List.length_take, List.getElem?_take, List.getElem?_drop, Array.length_toList]
  have m1 : min off cs.size = off := by omega
  rw [m1]
  by_cases i1 : i < off
  · rw [if_neg (by omega), if_pos (by omega), if_pos i1, if_pos i1]; simp
  · by_cases i2 : i < off + v.cells.size
    · rw [if_pos ⟨by omega, by omega, by omega⟩, if_pos i2, if_neg i1]
    · rw [if_neg (by omega), if_neg i2, show off + v.cells.size + (i - (off + v.cells.size)) = i from by omega]; simp

theorem consP_some {a : Option (Nat × Nat)} {x : Option X} {r : Option (List (Nat × Nat × X))} {l : List (Nat × Nat × X)} (hs : consP a x r = some l) :
    ∃ o n y k, a = some (o, n) ∧ x = some y ∧ r = some k ∧ l = (o, n, y) :: k := by
  unfold consP at hs
  split at hs
  · cases hs; exact ⟨_, _, _, _, rfl, rfl, rfl, rfl⟩
  · cases hs

theorem fill_rel {a : Go.Act} {tm : TM} (ht : TRel σ m tm a.tmps) {k : TK} {place : Nat → Option (Nat × Nat)} (hpl : ∀ i o n, placeOf P k i = some (o, n) → place i = some (o, n)) :
    ∀ (ps : List (Nat × Operand)) (l : List (Nat × Nat × X)) (cs r : List V) (c : Array Value), compParts P k ps = some l → fillV l tm cs = some r → LRel σ m cs c.toList → allAtoms cs = true →
      (∃ c', Instr.fill place c (ps.map fun p => (p.1, a.eval p.2)) = some c' ∧ LRel σ m r c'.toList) ∧ allAtoms r = true
  | [], l, cs, r, c, hc, hf, hr, ha => by
    cases hc
    cases hf
    exact ⟨⟨c, rfl, hr⟩, ha⟩
  | (i, x) :: ps, l, cs, r, c, hc, hf, hr, ha => by
    obtain ⟨o, n, y, k', h1, h2, h3, rfl⟩ := consP_some hc
    have hf' : fillP o n (y.ev tm).cells cs (fillV k' tm) = some r := hf
    unfold fillP at hf'
    cases hb : (Nat.beq (lenL (y.ev tm).cells) n && (Nat.ble (Nat.add o n) (lenL cs) && allAtoms (y.ev tm).cells)) with
    | false => rw [hb] at hf'; cases hf'
    | true =>
      rw [hb] at hf'
      rw [Bool.and_eq_true, Bool.and_eq_true] at hb
      have hn := Nat.eq_of_beq_eq_true hb.1
      have hle := Nat.le_of_ble_eq_true hb.2.1
      have hat := hb.2.2
      rw [lenL_eq] at hn hle
      have hle' : o + n ≤ cs.length := hle
      have hxr := cells_atoms (X_rel ht h2) hat
      have hcl := hr.length
      have hvl : (a.eval x).cells.size = n := by rw [← hn, ← hxr.length]; simp
      have hcs : c.size = cs.length := by rw [← hcl]; simp
      have hfold := fold_cells (cs := c) (off := o) (a.eval x) (by omega)
      have hrec := fill_rel ht hpl ps k' (wr cs o (y.ev tm).cells) r ((a.eval x).cells.zipIdx.foldl (fun cs (c, j) => cs.setIfInBounds (o + j) c) c) h3 hf' (by
          rw [hfold, wr_eq _ _ _ (by omega)]
          refine LRel.append (LRel.append (LRel.take _ hr) hxr) ?_
          rw [hvl, ← hn]
          exact LRel.drop _ hr) (wr_atoms (by omega) ha hat)
      refine ⟨?_, hrec.2⟩
      obtain ⟨c', h4, h5⟩ := hrec.1
      refine ⟨c', ?_, h5⟩
      simp only [List.map_cons, Instr.fill, hpl i o n h1]
      rw [if_neg (by simp [hvl]; omega)]
      exact h4

theorem mapM_places : ∀ (l : List Field), (∀ f ∈ l, (sizeP P f.type).isSome = true) → ∃ ps : List (Nat × Nat),
    (l.mapM (fun f => do pure (f.offset, ← sizeOf f.type) : Field → Sem (Nat × Nat))).run P w = .ok ps w ∧ ∀ i o n, compFld P l i = some (o, n) → ps[i]? = some (o, n)
  | [], _ => ⟨[], rfl, fun i o n hc => by simp [compFld] at hc⟩
  | f :: l, hl => by
    obtain ⟨n, hn⟩ := Option.isSome_iff_exists.1 (hl f (by simp))
    obtain ⟨ps, h1, h2⟩ := mapM_places l (fun g hg => hl g (by simp [hg]))
    refine ⟨(f.offset, n) :: ps, by simp only [List.mapM_cons, Sem.run_bind, sizeP_run hn, Result.andThen_ok, h1, Sem.run_pure], ?_⟩
    intro i o k hc
    cases i with
    | zero =>
      obtain ⟨g, hg1, hg2, hg3⟩ := compFld_some hc
      simp at hg1; subst hg1
      rw [hn] at hg3; cases hg3
      simp [hg2]
    | succ i => simpa using h2 i o k (by simpa [compFld] using hc)

theorem does_buildS {a : Go.Act} {tm : TM} {t : TypeId} {fs : List Field} {z r : List V} {ps : List (Nat × Operand)} {l : List (Nat × Nat × X)} {v : V} (ht : TRel σ m tm a.tmps) (hw : WRel σ m h w)
    (hk : kindP P t = some (.struct fs)) (hall : fs.all (fun f => (sizeP P f.type).isSome) = true) (hz : zeroC P t = some z) (hc : compParts P (.struct fs) ps = some l) (hs : okAgg h (fillV l tm z) = some (v, h')) :
    Does P σ m (do pure (.value (← Instr.build t (ps.toArray.map fun (i, x) => (i, a.eval x))))) v h h' w := by
  obtain ⟨r, hr, rfl, rfl⟩ := okAgg_some hs
  obtain ⟨zv, hz1, hz2, hz3⟩ := zeroC_some (σ := σ) (m := m) hz
  have hu := und_struct hk
  obtain ⟨pl, hp1, hp2⟩ := mapM_places (P := P) (w := w) fs (fun f hf => (List.all_eq_true.1 hall) f hf)
  obtain ⟨⟨c', h1, h2⟩, _⟩ := fill_rel ht (k := .struct fs) (place := fun i => pl[i]?) (fun i o n hh => hp2 i o n hh) ps l z r zv.cells hc hr hz2 hz3
  refine .same (x := .agg c') hw ?_ (by simp only [VRel]; exact ⟨c', rfl, h2⟩)
  have hm : (fs.toArray.mapM (fun f => do pure (f.offset, ← sizeOf f.type) : Field → Sem (Nat × Nat))).run P w = .ok pl.toArray w := by
    rw [Array.mapM_eq_mapM_toList, Sem.run_map]
    show Result.andThen (Sem.run P (List.mapM _ fs) w) _ = _
    rw [hp1]; rfl
  simp only [Instr.build, Sem.run_bind, zeroP_run hz1, Result.andThen_ok, run_und hu, hm]
  have h1' : Instr.fill (fun x => pl.toArray[x]?) zv.cells (ps.toArray.map fun (i, x) => (i, a.eval x)).toList = some c' := by simpa using h1
  rw [h1']
  rfl

theorem does_buildA {a : Go.Act} {tm : TM} {t e : TypeId} {n len : Nat} {z : List V} {ps : List (Nat × Operand)} {l : List (Nat × Nat × X)} {v : V} (ht : TRel σ m tm a.tmps) (hw : WRel σ m h w)
    (hk : kindP P t = some (.array len e)) (hz : zeroC P t = some z) (hc : compParts P (.array len e) ps = some l) (hs : okAgg h (fillV l tm z) = some (v, h')) (hn : sizeP P e = some n) :
    Does P σ m (do pure (.value (← Instr.build t (ps.toArray.map fun (i, x) => (i, a.eval x))))) v h h' w := by
  obtain ⟨r, hr, rfl, rfl⟩ := okAgg_some hs
  obtain ⟨zv, hz1, hz2, hz3⟩ := zeroC_some (σ := σ) (m := m) hz
  obtain ⟨d, e1, e2⟩ := kindP_some hk; have := tk_array e2; subst this
  obtain ⟨⟨c', h1, h2⟩, _⟩ := fill_rel ht (k := .array len e) (place := fun i => some (i * n, n)) (fun i o k hh => by simp only [placeOf, hn] at hh; exact hh) ps l z r zv.cells hc hr hz2 hz3
  refine .same (x := .agg c') hw ?_ (by simp only [VRel]; exact ⟨c', rfl, h2⟩)
  simp only [Instr.build, Sem.run_bind, zeroP_run hz1, Result.andThen_ok, run_und e1, sizeP_run hn]
  have h1' : Instr.fill (fun i => some (i * n, n)) zv.cells (ps.toArray.map fun (i, x) => (i, a.eval x)).toList = some c' := by simpa using h1
  rw [h1']
  rfl

theorem rep_length (z : List V) : ∀ n, (rep z n).length = n * z.length
  | 0 => by rw [Nat.zero_mul]; rfl
  | n + 1 => by
    show (appL z (rep z n)).length = _
    rw [appL_eq, List.length_append, rep_length z n, Nat.add_mul, Nat.one_mul, Nat.add_comm]
theorem rep_succ (z : List V) (n : Nat) : rep z (n + 1) = z ++ rep z n := appL_eq _ _
theorem rep_atoms {z : List V} (hz : allAtoms z = true) : ∀ n, allAtoms (rep z n) = true
  | 0 => rfl
  | n + 1 => by rw [rep_succ]; exact allAtoms_append hz (rep_atoms hz n)

/-- the model's rows of zeros. -/
theorem zeros_rel {z : List V} {zs : List Value} (hz : LRel σ m z zs) : ∀ n, ∃ l : List Value, LRel σ m (rep z n) l ∧ ∀ i, l[i]? = if i < n * zs.length then zs[i % zs.length]? else none
  | 0 => ⟨[], LRel.nil, by simp⟩
  | n + 1 => by
    obtain ⟨l, h1, h2⟩ := zeros_rel hz n
    refine ⟨zs ++ l, by rw [rep_succ]; exact LRel.append hz h1, ?_⟩
    intro i
    rw [List.getElem?_append]
    by_cases hi : i < zs.length
    · rw [if_pos hi, if_pos (by rw [Nat.add_mul, Nat.one_mul]; omega), Nat.mod_eq_of_lt hi]
    · rw [if_neg hi, h2]
      have e1 : (i - zs.length) % zs.length = i % zs.length := by
        rw [← Nat.mod_eq_sub_mod (by omega)]
      rw [e1, Nat.add_mul, Nat.one_mul]
      by_cases h3 : i - zs.length < n * zs.length
      · rw [if_pos h3, if_pos (by omega)]
      · rw [if_neg h3, if_neg (by omega)]

theorem zeros_arr {z : List V} {zs : Array Value} (hz : LRel σ m z zs.toList) (n k : Nat) (hk : k = n * zs.size) (hpos : 0 < zs.size) : LRel σ m (rep z n) ((Array.range k).map (zs[· % zs.size]!)).toList := by
  obtain ⟨l, h1, h2⟩ := zeros_rel hz n
  have : ((Array.range k).map (zs[· % zs.size]!)).toList = l := by
    apply List.ext_getElem?
    intro i
    rw [h2]
    simp only [Array.toList_map, List.getElem?_map, Array.toList_range, Array.length_toList]
    by_cases hi : i < n * zs.size
    · rw [if_pos hi, List.getElem?_range (by omega)]
      have hlt : i % zs.size < zs.size := Nat.mod_lt _ hpos
      simp [hlt]
    · rw [if_neg hi, List.getElem?_eq_none (by simp; omega)]; rfl
  rw [this]; exact h1

end
end A
end Go.Proofs.YtcohlhplpogopaaGreat

namespace Go.Proofs.YtcohlhplpogopaaGreat
namespace A

section
variable {P : Program} {σ : Sg} {m w : World} {h h' : H}

theorem fillV_length {tm : TM} : ∀ (l : List (Nat × Nat × X)) (cs r : List V), fillV l tm cs = some r → r.length = cs.length
  | [], cs, r, hs => by cases hs; rfl
  | (o, n, y) :: l, cs, r, hs => by
    have hs' : fillP o n (y.ev tm).cells cs (fillV l tm) = some r := hs
    unfold fillP at hs'
    cases hb : (Nat.beq (lenL (y.ev tm).cells) n && (Nat.ble (Nat.add o n) (lenL cs) && allAtoms (y.ev tm).cells)) with
    | false => rw [hb] at hs'; cases hs'
    | true =>
      rw [hb] at hs'
      rw [Bool.and_eq_true, Bool.and_eq_true] at hb
      have hn := Nat.eq_of_beq_eq_true hb.1
      have hle := Nat.le_of_ble_eq_true hb.2.1
      rw [lenL_eq] at hn hle
      have hle' : o + n ≤ cs.length := hle
      rw [fillV_length l _ r hs', wr_length _ _ _ (by omega)]

theorem litsL_some {es len : Nat} {o : Option (List V)} {v : V} (hs : litsL es len o h = some (v, h')) : ∃ l, o = some l ∧ allAtoms l = true ∧ v = .slc h.next 0 len es (some len) ∧ h' = h.new (.cells l) := by
  unfold litsL at hs
  split at hs
  · rename_i l
    cases ha : allAtoms l with
    | false => rw [ha] at hs; cases hs
    | true => rw [ha] at hs; cases hs; exact ⟨l, rfl, ha, rfl, rfl⟩
  · cases hs

theorem does_lits {a : Go.Act} {tm : TM} {t e : TypeId} {n len : Nat} {z : List V} {ps : List (Nat × Operand)} {l : List (Nat × Nat × X)} {v : V} (ht : TRel σ m tm a.tmps) (hw : WRel σ m h w) (hf : σ h.next = none)
    (hk : kindP P t = some (.slice e)) (hn : sizeP P e = some n) (hz : zeroC P e = some z) (hzn : z.length = n) (h24 : len * n ≤ 16777216) (h1n : 1 ≤ n) (hc : compParts P (.slice e) ps = some l)
    (hs : litsL n len (fillV l tm (rep z len)) h = some (v, h')) : Does P σ m (do pure (.value (← Instr.buildSlice t len (ps.toArray.map fun (i, x) => (i, a.eval x))))) v h h' w := by
  obtain ⟨r, hr, hra, rfl, rfl⟩ := litsL_some hs
  obtain ⟨zv, hz1, hz2, hz3⟩ := zeroC_some (σ := σ) (m := m) hz
  obtain ⟨d, e1, e2⟩ := kindP_some hk; have := tk_slice e2; subst this
  have hzs : zv.cells.size = n := by rw [← hzn, ← hz2.length]; simp
  have hlen0 : len * n = 0 → len = 0 := fun e0 => by
    rcases Nat.mul_eq_zero.1 e0 with e | e <;> omega
  have fin : ∀ (row : Array Value), LRel σ m (rep z len) row.toList → (∀ c', Instr.fill (fun i => some (i * n, n)) row (ps.map fun p => (p.1, a.eval p.2)) = some c' →
      (Instr.buildSlice t len (ps.toArray.map fun (i, x) => (i, a.eval x))).run P w = (newRow e c' >>= fun r => (pure (.slice (some r) len len) : Sem Value)).run P w) →
      Does P σ m (do pure (.value (← Instr.buildSlice t len (ps.toArray.map fun (i, x) => (i, a.eval x))))) (.slc h.next 0 len n (some len)) h (h.new (.cells r)) w := by
    intro row hrow hrun
    obtain ⟨⟨c', h1, h2⟩, _⟩ := fill_rel ht (k := .slice e) (place := fun i => some (i * n, n)) (fun i o k hh => by simp only [placeOf, hn] at hh; exact hh) ps l (rep z len) r row hc hr hrow (rep_atoms hz3 len)
    have hcs : c'.size = len * n := by
      have := h2.length
      rw [fillV_length l _ r hr, rep_length, hzn] at this
      simpa using this
    obtain ⟨g1, g2, g3⟩ := new_row (P := P) (e := e) hw hf h2 hra
    refine .of_run (x := .slice (some ⟨w.heap.size, 0, none⟩) len len) ?_ ?_ g2 g3
    · rw [hrun c' h1, Sem.run_bind, g1]; rfl
    · simp only [VRel, SRel, upd, if_true]
      exact ⟨len, rfl, Nat.le_refl _, by rw [hcs]; omega, fun j e => by cases e; rfl⟩
  have hps : (ps.toArray.map fun (i, x) => (i, a.eval x)).toList = ps.map fun p => (p.1, a.eval p.2) := by simp
  by_cases e0 : len * n = 0
  · have hl0 := hlen0 e0; subst hl0
    refine fin #[] LRel.nil fun c' hfill => ?_
    have harr : Array.map (fun x => (#[] : Array Value)[x % (#[] : Array Value).size]!) (Array.range (0 * n)) = #[] := by rw [e0]; simp
    simp only [Instr.buildSlice, Sem.run_bind, run_und e1, Result.andThen_ok, sizeP_run hn]
    rw [if_neg (by omega), if_pos e0]
    simp only [Sem.run_bind, Sem.run_pure, Result.andThen_ok, harr, hps, hfill]
  · refine fin _ (zeros_arr hz2 len (len * n) (by rw [hzs]) (by omega)) fun c' hfill => ?_
    simp only [Instr.buildSlice, Sem.run_bind, run_und e1, Result.andThen_ok, sizeP_run hn]
    rw [if_neg (by omega), if_neg e0]
    simp only [Sem.run_bind, zeroP_run hz1, Sem.run_pure, Result.andThen_ok, hps, hfill]

theorem wrap_small {n : Nat} (hn : n ≤ 281474976710656) : IntKind.i64.wrap (n : Int) = n := by
  simp [IntKind.wrap, IntKind.bits, IntKind.signed]; omega

theorem does_makeS {t e : TypeId} {n b : Nat} {z : List V} {l c : Option Nat} {v : V} {x y : Value} (hw : WRel σ m h w) (hf : σ h.next = none) (hk : kindP P t = some (.slice e)) (hn : sizeP P e = some n)
    (hb : bytesP P e = some b) (hz : zeroC P e = some z) (hzn : z.length = n) (h1n : 1 ≤ n) (hs : makeSN n b z l c h = some (v, h')) (hl : ∀ j, l = some j → ∃ k, x = .int k (j : Int)) (hc : ∀ j, c = some j → ∃ k, y = .int k (j : Int)) :
    Does P σ m (do pure (.value (← Instr.makeSlice t x y))) v h h' w := by
  unfold makeSN at hs
  split at hs
  · rename_i l c
    cases hcc : (Nat.ble l c && (Nat.ble (Nat.mul b c) 281474976710656 && Nat.ble c 281474976710656)) with
    | false => rw [hcc] at hs; cases hs
    | true =>
      rw [hcc] at hs; cases hs
      rw [Bool.and_eq_true, Bool.and_eq_true] at hcc
      have h1 := Nat.le_of_ble_eq_true hcc.1
      have h2 : b * c ≤ 281474976710656 := Nat.le_of_ble_eq_true hcc.2.1
      have h3 := Nat.le_of_ble_eq_true hcc.2.2
      obtain ⟨k1, rfl⟩ := hl l rfl
      obtain ⟨k2, rfl⟩ := hc c rfl
      obtain ⟨zv, hz1, hz2, hz3⟩ := zeroC_some (σ := σ) (m := m) hz
      obtain ⟨d, e1, e2⟩ := kindP_some hk; have := tk_slice e2; subst this
      obtain ⟨i, hi1, hi2⟩ := bytesP_run hb w
      have hzs : zv.cells.size = n := by rw [← hzn, ← hz2.length]; simp
      have hlen0 : c * n = 0 → c = 0 := fun e0 => by rcases Nat.mul_eq_zero.1 e0 with e | e <;> omega
      have fin : ∀ (row : Array Value), LRel σ m (rep z c) row.toList → (Instr.makeSlice t (.int k1 l) (.int k2 c)).run P w = (newRow e row >>= fun r => (pure (.slice (some r) l c) : Sem Value)).run P w →
          Does P σ m (do pure (.value (← Instr.makeSlice t (.int k1 l) (.int k2 c)))) (.slc h.next 0 l n (some c)) h (h.new (.cells (rep z c))) w := by
        intro row hrow hrun
        obtain ⟨g1, g2, g3⟩ := new_row (P := P) (e := e) hw hf hrow (rep_atoms hz3 c)
        have hcs : row.size = c * n := by
          have := hrow.length
          rw [rep_length, hzn] at this
          simpa using this
        refine .of_run (x := .slice (some ⟨w.heap.size, 0, none⟩) l c) ?_ ?_ g2 g3
        · rw [hrun, Sem.run_bind, g1]; rfl
        · simp only [VRel, SRel, upd, if_true]
          exact ⟨c, rfl, h1, by rw [hcs]; omega, fun j e => by cases e; rfl⟩
      have t1 : (decide ((c : Int) < 0) || decide ((i.bytes : Int) * (c : Int) > 2 ^ 48)) = false := by
        have h2' : ((b * c : Nat) : Int) ≤ ((281474976710656 : Nat) : Int) := Int.ofNat_le.2 h2
        rw [Int.natCast_mul] at h2'
        rw [hi2]
        simp only [Bool.or_eq_false_iff, decide_eq_false_iff_not]
        constructor
        · omega
        · omega
      have t2 : ¬ ((decide ((c : Int) < 0) || decide ((i.bytes : Int) * (c : Int) > 2 ^ 48)) = true ∨ (l : Int) < 0 ∨ (l : Int) > (c : Int)) := by
        rw [t1]; intro hh
        rcases hh with hh | hh | hh
        · cases hh
        · omega
        · omega
      by_cases e0 : c * n = 0
      · have hc0 := hlen0 e0; subst hc0
        refine fin #[] LRel.nil ?_
        have harr : Array.map (fun x => (#[] : Array Value)[x % (#[] : Array Value).size]!) (Array.range (0 * n)) = #[] := by rw [e0]; simp
        simp only [Instr.makeSlice, Sem.run_bind, run_und e1, Result.andThen_ok, asInt, asIntOf, Sem.run_pure, hi1, wrap_small h3, wrap_small (Nat.le_trans h1 h3)]
        rw [if_neg (by simpa [or_assoc] using t2)]
        simp only [run_askRoom, Result.andThen_ok, Sem.run_bind, Int.toNat_natCast, sizeP_run hn]
        rw [if_pos e0]
        simp only [Sem.run_bind, Sem.run_pure, Result.andThen_ok, harr]
      · refine fin _ (zeros_arr hz2 c (c * n) (by rw [hzs]) (by omega)) ?_
        simp only [Instr.makeSlice, Sem.run_bind, run_und e1, Result.andThen_ok, asInt, asIntOf, Sem.run_pure, hi1, wrap_small h3, wrap_small (Nat.le_trans h1 h3)]
        rw [if_neg (by simpa [or_assoc] using t2)]
        simp only [run_askRoom, Result.andThen_ok, Sem.run_bind, Int.toNat_natCast, sizeP_run hn]
        rw [if_neg e0]
        simp only [Sem.run_bind, zeroP_run hz1, Sem.run_pure, Result.andThen_ok]
  · cases hs

/- strings and bytes -/
theorem bytes_rel : ∀ l : List UInt8, LRel σ m (l.map byteV) (l.map fun b => Value.int .u8 b.toNat)
  | [] => LRel.nil
  | b :: l => LRel.cons (by simp only [byteV, VRel]; rfl) (bytes_rel l)
theorem bytes_allB : ∀ l : List UInt8, allB (l.map byteV) = true
  | [] => rfl
  | b :: l => by rw [List.map_cons, allB_cons, bytes_allB l]; rfl
theorem bytes_atoms : ∀ l : List UInt8, allAtoms (l.map byteV) = true
  | [] => rfl
  | b :: l => by rw [List.map_cons, allAtoms_cons, bytes_atoms l]; rfl

theorem WRel.redraw (hw : WRel σ m h w) (k : Nat) : WRel σ m h { w with drawn := k } := ⟨hw.size, hw.old, hw.cells, hw.maps, hw.inj, hw.bound, hw.fresh⟩
theorem Good.redraw {σ' : Sg} {w' : World} {k : Nat} (g : Good σ σ' h h' { w with drawn := k } w') : Good σ σ' h h' w w' := ⟨g.le, g.ext, g.size, g.frame, g.new, g.gone, g.rest, g.keep⟩

theorem run_markStringish (w : World) (c : Array Value) (e : TypeId) : (markStringish ⟨w.heap.size, 0, none⟩).run P (pushW w (.cells c e)) = .ok () (pushW w (.cells c e (c.size, c.size + 1))) := by
  have hsh : (pushW w (.cells c e)).shape? w.heap.size = some (e, c.size) := by unfold World.shape?; rw [pushW_get, if_pos rfl]
  simp only [markStringish, Sem.run_bind, run_shape, Result.andThen_ok, hsh, run_freeze]
  have h2 : (pushW w (.cells c e)).heap.modify w.heap.size (fun
      | .cells c' elem (lo, hi) => .cells c' elem (if lo == hi then (c.size, c.size + 1) else (min lo c.size, max hi (c.size + 1)))
      | o => o) = (pushW w (.cells c e (c.size, c.size + 1))).heap := by
    apply Array.ext_getElem?
    intro i
    rw [Array.getElem?_modify, pushW_get, pushW_get]
    by_cases hi : i = w.heap.size
    · subst hi; simp
    · rw [if_neg (Ne.symm hi), if_neg hi, if_neg hi]
  unfold World.freeze
  rw [if_neg (by omega)]
  exact congrArg (fun hp => Result.ok () ({ heap := hp, tape := w.tape, drawn := w.drawn, os := w.os, output := w.output } : World)) h2

theorem does_strb {s t e : TypeId} {u v : V} {x : Value} (hs : strbV u h = some (v, h')) (hw : WRel σ m h w) (hf : σ h.next = none) (ha : VRel σ m u x) (hk1 : kindP P s = some .string) (hk2 : kindP P t = some (.slice e))
    (hu8 : kindP P e = some (.int .u8)) : Does P σ m (do pure (.value (← convert s t x))) v h h' w := by
  obtain ⟨d, e1, e2⟩ := kindP_some hk1; have := tk_string e2; subst this
  obtain ⟨d, f1, f2⟩ := kindP_some hk2; have := tk_slice f2; subst this
  obtain ⟨d, g1, g2⟩ := kindP_some hu8; have := tk_int g2; subst this
  unfold strbV at hs
  split at hs
  · rename_i q
    have e := litV_rel ha; subst e
    cases hs
    let cap := q.size + (w.tape w.drawn (.appendCap q.size 0 e)) % (2 ^ 63 - q.size)
    let c : Array Value := q.data.map (fun b => Value.int .u8 b.toNat) ++ Array.replicate (cap - q.size) (.int .u8 0)
    have hcs : c.size = cap := by
      show (q.data.map _ ++ Array.replicate _ _).size = cap
      simp only [Array.size_append, Array.size_map, Array.size_replicate]
      have : q.data.size = q.size := rfl
      rw [this]
      show q.size + (q.size + _ - q.size) = q.size + _
      omega
    have hw1 := hw.redraw (w.drawn + 1)
    have hlen : (q.data.toList.map byteV).length ≤ c.size := by
      rw [hcs, List.length_map, ← size_data]
      show q.size ≤ q.size + _
      omega
    have hp := hw1.pushCells hf (l := q.data.toList.map byteV) (c := c) (e := e) (fr := (c.size, c.size + 1)) hlen (fun i hi hh => by have := hh.1; simp at this; omega) (by
        rw [List.length_map]
        have : c.toList.take q.data.toList.length = q.data.toList.map fun b => Value.int .u8 b.toNat := by
          show (q.data.map _ ++ Array.replicate _ _).toList.take _ = _
          simp
        rw [this]
        exact bytes_rel _) (bytes_atoms _) (fun _ => bytes_allB _)
    refine .of_run (x := .slice (some ⟨w.heap.size, 0, none⟩) q.size cap) ?_ ?_ hp.1 hp.2.redraw
    · have hnr : (newRow e c).run P { w with drawn := w.drawn + 1 } = .ok ⟨w.heap.size, 0, none⟩ (pushW { w with drawn := w.drawn + 1 } (.cells c e)) := rfl
      have hms := run_markStringish (P := P) { w with drawn := w.drawn + 1 } c e
      simp only [convert, Sem.run_bind, run_und e1, run_und f1, Result.andThen_ok, run_und g1, Conv.stringToBytes, run_choose, Question.forced, Bool.false_eq_true, if_false]
      show ((newRow e c).run P { w with drawn := w.drawn + 1 }).andThen _ = _
      rw [hnr]
      simp only [Result.andThen_ok]
      show ((markStringish ⟨w.heap.size, 0, none⟩).run P _).andThen _ = _
      rw [show (markStringish ⟨w.heap.size, 0, none⟩).run P (pushW { w with drawn := w.drawn + 1 } (.cells c e)) = _ from hms]
      rfl
    · simp only [VRel, SRel, upd, if_true]
      refine ⟨cap, by rw [← size_data], by rw [← size_data]; show q.size ≤ q.size + _; omega, by rw [hcs]; omega, fun j e => by cases e⟩
  · cases hs

theorem bytesOf_cons (a : V) (l : List V) : bytesOf (a :: l) = consB a (bytesOf l) := rfl
theorem bytesOf_rel : ∀ {l : List V} {r : List UInt8} {xs : List Value}, bytesOf l = some r → LRel σ m l xs → ∃ ns : List Int, xs = ns.map (Value.int .u8) ∧ ns.map (fun n => UInt8.ofNat n.toNat) = r
  | [], r, xs, hs, hr => by
    rw [LRel.nil_iff] at hr
    have : r = [] := by cases hs; rfl
    exact ⟨[], by rw [hr]; rfl, by rw [this]; rfl⟩
  | a :: l, r, xs, hs, hr => by
    rw [bytesOf_cons] at hs
    unfold consB at hs
    split at hs
    · rename_i n q hq
      simp only [LRel] at hr
      obtain ⟨x, xs', rfl, hx, hr'⟩ := hr
      obtain ⟨ns, h1, h2⟩ := bytesOf_rel hq hr'
      have e := litV_rel hx
      cases hs
      refine ⟨(n : Int) :: ns, ?_, ?_⟩
      · rw [e, h1]; rfl
      · rw [List.map_cons, h2]; simp
    · cases hs

/-- the cells of a slice that is read. -/
theorem row_slice {es : Nat} {u : V} {x : Value} {r : List V} {n : Nat} (hs : h.row es u = some (r, n)) (hw : WRel σ m h w) (ha : VRel σ m u x) (hns : ∀ s, u ≠ .lit (.string s)) :
    r.length = n * es ∧ ((x = .slice none 0 0 ∧ n = 0 ∧ r = []) ∨ ∃ a c xs, x = .slice (some a) n c ∧ LRel σ m r xs ∧ (∀ j v, xs[j]? = some v → w.cell? (a.add j) = some v)) := by
  unfold H.row at hs
  split at hs
  · rename_i b off len es' cap
    cases he : Nat.beq es es' with
    | false => rw [he] at hs; cases hs
    | true =>
      rw [he] at hs
      have := Nat.eq_of_beq_eq_true he; subst this
      simp only [cond_true, withLen] at hs
      split at hs
      · rename_i l hl
        cases hs
        unfold cutO at hl
        split at hl
        · rename_i k hk
          obtain ⟨h1, h2⟩ := cut_some hl
          have hg := cellsOf_some (show cellsOf (h.get b) = some k from hk)
          obtain ⟨blk, q, size, ll, c, hg', hσ, hx, hlc, hsz, hcap, hlies⟩ := slc_live hw ha hg
          rw [hg] at hg'; cases hg'
          obtain ⟨xs, hxl, hxr, hxc⟩ := hlies.get
          refine ⟨h2, .inr ⟨⟨blk, q + off, none⟩, c, (xs.drop off).take (n * es), hx, ?_, ?_⟩⟩
          · rw [h1]; exact LRel.take _ (LRel.drop _ hxr)
          · intro j v hj
            rw [add_none]
            rw [List.getElem?_take] at hj
            split at hj
            · rw [List.getElem?_drop] at hj
              rw [Nat.add_assoc]; exact hxc _ _ hj
            · cases hj
        · cases hl
      · cases hs
  · rename_i l len
    simp only [withLen] at hs
    split at hs
    · rename_i k hk
      cases hs
      obtain ⟨h1, h2⟩ := cut_some hk
      simp only [VRel] at ha
      obtain ⟨blk, off, sp, c, hx, _, hcr, hsp⟩ := ha
      obtain ⟨xs, hxl, hxr, hxc⟩ := hcr.get
      refine ⟨h2, .inr ⟨⟨blk, off, sp⟩, c, xs.take (n * es), hx, ?_, ?_⟩⟩
      · rw [h1]; exact LRel.take _ hxr
      · intro j v hj
        rw [List.getElem?_take] at hj
        split at hj
        · rename_i hlt
          obtain rfl : sp = none := hsp.resolve_right (by rintro rfl; rw [Nat.zero_mul] at hlt; exact absurd hlt (Nat.not_lt_zero _))
          rw [add_none]
          exact hw.cell_old (hxc _ _ hj)
        · cases hj
    · cases hs
  · cases hs
    exact ⟨by simp, .inl ⟨litV_rel ha, rfl, rfl⟩⟩
  · exact absurd rfl (hns _)
  · cases hs

/-- what a slice or a string that is read gives to append and copy. -/
theorem row_first {es : Nat} {u : V} {x : Value} {r : List V} {n : Nat} (hs : h.row es u = some (r, n)) (hw : WRel σ m h w) (ha : VRel σ m u x) :
    ∃ xs : List Value, LRel σ m r xs ∧ xs.length = n * es ∧ (Builtin.lenOf x).run P w = .ok n w ∧ ∀ k, k ≤ n → (Builtin.firstCells es k x).run P w = .ok (xs.take (k * es)).toArray w := by
  by_cases hstr : ∃ s, u = .lit (.string s)
  · obtain ⟨s, rfl⟩ := hstr
    have e := litV_rel ha; subst e
    have hs' : cond (Nat.beq es 1) (some (s.data.toList.map byteV, s.data.toList.length)) none = some (r, n) := hs
    cases he : Nat.beq es 1 with
    | false => rw [he] at hs'; cases hs'
    | true =>
      rw [he] at hs'
      have := Nat.eq_of_beq_eq_true he; subst this
      cases hs'
      refine ⟨s.data.toList.map fun b => .int .u8 b.toNat, bytes_rel _, by simp, by rw [← size_data]; rfl, ?_⟩
      intro k hk
      simp only [Builtin.firstCells, Sem.run_pure, Nat.mul_one]
      congr 1
      apply Array.ext'
      rw [ByteArray.data_extract]
      simp [List.extract]
  · obtain ⟨h1, h2⟩ := row_slice hs hw ha (fun s e => hstr ⟨s, e⟩)
    rcases h2 with ⟨rfl, rfl, rfl⟩ | ⟨ad, c, xs, rfl, hr, hc⟩
    · exact ⟨[], LRel.nil, by simp, rfl, fun k _ => by simp [Builtin.firstCells]⟩
    · have hl := hr.length
      refine ⟨xs, hr, by rw [hl, h1], rfl, ?_⟩
      intro k hk
      have hlc := run_loadCells_list (P := P) w ad (xs.take (k * es)) (fun j v hj => by
        rw [List.getElem?_take] at hj
        split at hj
        · exact hc j v hj
        · cases hj)
      have : (xs.take (k * es)).length = k * es := by
        rw [List.length_take, hl, h1]
        have := Nat.mul_le_mul_right es hk
        omega
      rw [this] at hlc
      exact hlc

theorem does_bstr {s t e : TypeId} {u v : V} {x : Value} (hs : bstrV u h = some (v, h')) (hw : WRel σ m h w) (ha : VRel σ m u x) (hk1 : kindP P s = some (.slice e)) (hk2 : kindP P t = some .string)
    (hu8 : kindP P e = some (.int .u8)) : Does P σ m (do pure (.value (← convert s t x))) v h h' w := by
  obtain ⟨d, e1, e2⟩ := kindP_some hk1; have := tk_slice e2; subst this
  obtain ⟨d, f1, f2⟩ := kindP_some hk2; have := tk_string f2; subst this
  obtain ⟨d, g1, g2⟩ := kindP_some hu8; have := tk_int g2; subst this
  have main : ∀ l n, h.row 1 u = some (l, n) → (∀ q, u ≠ .lit (.string q)) → okStr h (bytesOf l) = some (v, h') → Does P σ m (do pure (.value (← convert s t x))) v h h' w := by
    intro l n hrow hns hok
    unfold okStr at hok
    split at hok
    · rename_i r hr
      cases hok
      obtain ⟨h1, h2⟩ := row_slice hrow hw ha hns
      rcases h2 with ⟨rfl, rfl, rfl⟩ | ⟨ad, c, xs, rfl, hrr, hc⟩
      · have : r = [] := by cases hr; rfl
        subst this
        exact .same (x := .string .empty) hw (by simp [convert, run_und e1, run_und f1, run_und g1, Conv.bytesToString]) (by simp only [VRel]; rfl)
      · obtain ⟨ns, hx1, hx2⟩ := bytesOf_rel hr hrr
        have hlen := hrr.length
        have hlc := run_loadCells_list (P := P) w ad xs (fun j v hj => hc j v hj)
        have hn : xs.length = n := by rw [hlen, h1, Nat.mul_one]
        rw [hn, hx1] at hlc
        have hb := run_bytesToString (P := P) w ad n c ns hlc
        have hfold : ∀ (ns : List Int) (a : ByteArray), ns.foldl (fun r n => r.push (UInt8.ofNat n.toNat)) a = ⟨a.data ++ (ns.map fun n => UInt8.ofNat n.toNat).toArray⟩ := by
          intro ns
          induction ns with
          | nil => intro a; simp
          | cons k ns ih =>
            intro a
            rw [List.foldl_cons, ih]
            apply ByteArray.ext
            apply Array.ext'
            simp [ByteArray.push]
        refine .same (x := .string ⟨r.toArray⟩) hw ?_ (by simp only [VRel])
        simp only [convert, Sem.run_bind, run_und e1, run_und f1, run_und g1, Result.andThen_ok, hb]
        rw [hfold, hx2]
        congr 2
        apply ByteArray.ext
        simp
    · cases hok
  unfold bstrV at hs
  split at hs
  · cases hs
  · rename_i hns
    unfold bstrR at hs
    split at hs
    · rename_i l n hl
      exact main l n hl (fun q e => hns q e) hs
    · cases hs

end
end A
end Go.Proofs.YtcohlhplpogopaaGreat

namespace Go.Proofs.YtcohlhplpogopaaGreat
namespace A

section
variable {P : Program} {σ : Sg} {m w : World} {h h' : H}

/-- heaps that answer alike. -/
def HEq' (h h2 : H) : Prop := h.next = h2.next ∧ ∀ b, h.get b = h2.get b

theorem WRel.congr {h2 : H} (he : HEq' h h2) (hw : WRel σ m h w) : WRel σ m h2 w := by
  obtain ⟨h1, hg⟩ := he
  exact ⟨hw.size, hw.old, fun b l hh => hw.cells b l (by rw [hg]; exact hh), fun b l hh => hw.maps b l (by rw [hg]; exact hh), hw.inj, hw.bound, fun b hb => by rw [← hg]; exact hw.fresh b (by omega)⟩
theorem Good.congr {σ' : Sg} {h2 : H} {w' : World} (he : HEq' h' h2) (g : Good σ σ' h h' w w') : Good σ σ' h h2 w w' := by
  obtain ⟨h1, hg⟩ := he
  exact ⟨by rw [← h1]; exact g.le, by rw [← h1]; exact g.ext, g.size, g.frame, g.new, fun b hb hh => by rw [← hg]; exact g.gone b hb (by rw [h1]; exact hh), g.rest, g.keep⟩

theorem kill_new_set (h : H) (b : Nat) (x y : Obj) : HEq' (((h.set b none).new x).set h.next (some y)) ((h.set b none).new y) := by
  refine ⟨rfl, fun c => ?_⟩
  rw [H.get_set, H.get_new, H.get_new]
  by_cases e : c = h.next
  · simp [e, H.next_set]
  · simp [e, H.next_set]

theorem nextcap_le (need cap : Nat) : Builtin.nextslicecap need cap ≤ 3 * need + 3000 ∨ need ≤ cap := by
  by_cases hc : need ≤ cap
  · exact .inr hc
  left
  unfold Builtin.nextslicecap
  split
  · omega
  · split
    · omega
    · simp only [Builtin.growBy]
      split
      · omega
      · split
        · omega
        · split
          · omega
          · split <;> omega

theorem zeroCells_size (z : Array Value) (n : Nat) : (Builtin.zeroCells z n).size = n * z.size := by simp [Builtin.zeroCells]

/-- append, where it fits. -/
theorem run_append_fit {t u e ty : TypeId} {es len c n : Nat} {a : Option Addr} {x : Value} {xs : List Value} {K : World} (hk : kindP P t = some (.slice e)) (hes : sizeP P e = some es)
    (hu : (∃ e', kindP P u = some (.slice e')) ∨ kindP P u = some .string) (hlen : (Builtin.lenOf x).run P w = .ok n w) (hx : (Builtin.firstCells es n x).run P w = .ok xs.toArray w) (hfit : len + n ≤ c)
    (hst : match a with | some a => (storeCells (a.add (len * es)) xs).run P w = .ok () K | none => K = w) :
    (Builtin.append_ #[t, u] ty #[.slice a len c, x]).run P w = .ok (.slice a (len + n) c) K := by
  obtain ⟨d, e1, e2⟩ := kindP_some hk; have := tk_slice e2; subst this
  have hz : ∃ d', P.underlying u = some d' ∧ ((∃ e', d' = .slice e') ∨ d' = .string) := by
    rcases hu with ⟨e', hu⟩ | hu
    · obtain ⟨d, f1, f2⟩ := kindP_some hu; have := tk_slice f2; subst this; exact ⟨_, f1, .inl ⟨_, rfl⟩⟩
    · obtain ⟨d, f1, f2⟩ := kindP_some hu; have := tk_string f2; subst this; exact ⟨_, f1, .inr rfl⟩
  obtain ⟨d', f1, f2⟩ := hz
  rcases f2 with ⟨e', rfl⟩ | rfl
  all_goals
    simp only [Builtin.append_, List.getElem?_toArray, List.getElem?_cons_zero, List.getElem?_cons_succ, Sem.run_bind, run_und e1, Result.andThen_ok, sizeP_run hes, run_und f1, Sem.run_pure, Bool.false_eq_true, if_false, hlen,
      if_pos hfit, Bool.not_false, if_true, hx]
    cases a with
    | none => simp only at hst; subst hst; rfl
    | some a => simp only at hst; simp only [hst, Result.andThen_ok, Sem.run_pure, Sem.run_bind]

/-- append, where it needs a new row. -/
theorem run_append_grow {t u e ty : TypeId} {es len c n b : Nat} {a : Option Addr} {x z : Value} {xs old : List Value} (hk : kindP P t = some (.slice e)) (hes : sizeP P e = some es) (hb : bytesP P e = some b) (hz : zeroP P e = some z)
    (hzs : z.cells.size = es) (h1b : 1 ≤ b) (hb6 : b ≤ 65536) (hmost : (len + n) * b ≤ 17592186044416)
    (hu : (∃ e', kindP P u = some (.slice e')) ∨ kindP P u = some .string) (hlen : (Builtin.lenOf x).run P w = .ok n w) (hx : (Builtin.firstCells es n x).run P { w with drawn := w.drawn + 1 } = .ok xs.toArray { w with drawn := w.drawn + 1 })
    (hold : (Builtin.firstCells es len (.slice a len c)).run P { w with drawn := w.drawn + 1 } = .ok old.toArray { w with drawn := w.drawn + 1 }) (hfit : ¬ len + n ≤ c) :
    ∃ nc rest, len + n ≤ nc ∧ rest.length = (nc - (len + n)) * es ∧ (Builtin.append_ #[t, u] ty #[.slice a len c, x]).run P w =
      .ok (.slice (some ⟨w.heap.size, 0, none⟩) (len + n) nc) (pushW { w with drawn := w.drawn + 1 } (.cells (old ++ xs ++ rest).toArray e)) := by
  obtain ⟨d, e1, e2⟩ := kindP_some hk; have := tk_slice e2; subst this
  have hz' : ∃ d', P.underlying u = some d' ∧ ((∃ e', d' = .slice e') ∨ d' = .string) := by
    rcases hu with ⟨e', hu⟩ | hu
    · obtain ⟨d, f1, f2⟩ := kindP_some hu; have := tk_slice f2; subst this; exact ⟨_, f1, .inl ⟨_, rfl⟩⟩
    · obtain ⟨d, f1, f2⟩ := kindP_some hu; have := tk_string f2; subst this; exact ⟨_, f1, .inr rfl⟩
  obtain ⟨d', f1, f2⟩ := hz'
  obtain ⟨i, hi1, hi2⟩ := bytesP_run hb w
  have hneed : len + n ≤ 17592186044416 := by
    have : (len + n) * 1 ≤ (len + n) * b := Nat.mul_le_mul_left _ h1b
    omega
  have t1 : ¬ (((len + n : Nat) : Int) > IntKind.i64.max ∧ (False ∨ i.bytes = 0)) := by
    rintro ⟨_, hh | hh⟩
    · exact hh
    · omega
  have t2 : ¬ Builtin.nextslicecap (len + n) c * i.bytes > 2 ^ 48 := by
    rcases nextcap_le (len + n) c with hh | hh
    · have h3 : Builtin.nextslicecap (len + n) c * b ≤ (3 * (len + n) + 3000) * b := Nat.mul_le_mul_right _ hh
      have h4 : (3 * (len + n) + 3000) * b = 3 * ((len + n) * b) + 3000 * b := by rw [Nat.add_mul, Nat.mul_assoc]
      rw [hi2]; omega
    · exact absurd hh hfit
  let nc := (len + n) + (w.tape w.drawn (.appendCap (len + n) c e)) % (2 ^ 63 - (len + n))
  refine ⟨nc, (Builtin.zeroCells z.cells (nc - (len + n))).toList, by show len + n ≤ len + n + _; omega, by rw [Array.length_toList, zeroCells_size, hzs], ?_⟩
  have hi1' : (typeInfo e).run P { w with drawn := w.drawn + 1 } = .ok i { w with drawn := w.drawn + 1 } := by
    obtain ⟨i', h5, h6⟩ := bytesP_run hb { w with drawn := w.drawn + 1 }
    have : i' = i := by
      simp only [typeInfo, Sem.run_bind, run_program, Result.andThen_ok] at h5 hi1
      split at h5
      · rename_i j hj; rw [hj] at hi1; cases h5; cases hi1; rfl
      · cases h5
    rw [h5, this]
  have harr : (old.toArray ++ xs.toArray ++ Builtin.zeroCells z.cells (nc - (len + n))) = (old ++ xs ++ (Builtin.zeroCells z.cells (nc - (len + n))).toList).toArray := by
    apply Array.ext'; simp
  rw [← harr]
  rcases f2 with ⟨e', rfl⟩ | rfl
  all_goals
    simp only [Builtin.append_, List.getElem?_toArray, List.getElem?_cons_zero, List.getElem?_cons_succ, Sem.run_bind, run_und e1, Result.andThen_ok, sizeP_run hes, run_und f1, Sem.run_pure, Bool.false_eq_true, if_false, hlen,
      if_neg hfit, Bool.not_false, if_true, hi1]
    rw [if_neg t1]
    simp only [Sem.run_bind, hi1, Result.andThen_ok]
    rw [if_neg t2]
    simp only [Sem.run_bind, run_choose, Question.forced, Bool.false_eq_true, if_false, Result.andThen_ok, hi1', run_askRoom, hold, hx, zeroP_run hz, newRow, run_newObj, Sem.run_pure]
    rfl

theorem appCap_cases {b off len es n : Nat} {l old ys : List V} {cap : Option Nat} {v : V} (hs : appCap h b off len es n l old ys cap = some (v, h')) :
    (keepB l ys = true ∨ appGrows len n cap = true) ∧ ((cap = none ∧ v = .slc h.next 0 (len + n) es none ∧ h' = (h.set b none).new (.cells (old ++ ys))) ∨
    (∃ c, cap = some c ∧ len + n ≤ c ∧ off + (len + n) * es ≤ l.length ∧ v = .slc b off (len + n) es cap ∧ h' = h.set b (some (.cells (wr l (off + len * es) ys)))) ∨
    (∃ c, cap = some c ∧ ¬ len + n ≤ c ∧ v = .slc h.next 0 (len + n) es none ∧ h' = h.new (.cells (old ++ ys)))) := by
  have hs' : cond (or (keepB l ys) (appGrows len n cap)) (appCap0 h b off len es n l old ys cap) none = some (v, h') := hs
  cases hkb : or (keepB l ys) (appGrows len n cap) with
  | false => rw [hkb] at hs'; cases hs'
  | true =>
  rw [hkb] at hs'
  replace hs : appCap0 h b off len es n l old ys cap = some (v, h') := hs'
  rw [Bool.or_eq_true] at hkb
  refine ⟨hkb, ?_⟩
  unfold appCap0 at hs
  split at hs
  · cases hs; exact .inl ⟨rfl, rfl, by rw [appL_eq]⟩
  · rename_i c
    cases h1 : Nat.ble (Nat.add len n) c with
    | true =>
      rw [h1] at hs
      cases h2 : Nat.ble (Nat.add off (Nat.mul (Nat.add len n) es)) (lenL l) with
      | true =>
        rw [h2] at hs; cases hs
        have := Nat.le_of_ble_eq_true h2
        rw [lenL_eq] at this
        exact .inr (.inl ⟨c, rfl, Nat.le_of_ble_eq_true h1, this, rfl, rfl⟩)
      | false => rw [h2] at hs; cases hs
    | false =>
      rw [h1] at hs; cases hs
      exact .inr (.inr ⟨c, rfl, (fun e => by rw [show Nat.ble (Nat.add len n) c = true from Nat.ble_eq_true_of_le e] at h1; cases h1), rfl, by rw [appL_eq]⟩)

/-- a new row that begins with given cells. -/
theorem grown_rel {l : List V} {xs rest : List Value} {e : TypeId} (hw : WRel σ m h w) (hf : σ h.next = none) (hr : LRel σ m l xs) (ha : allAtoms l = true) :
    WRel (upd σ h.next (.at w.heap.size 0 (xs ++ rest).toArray.size)) m (h.new (.cells l)) (pushW w (.cells (xs ++ rest).toArray e)) ∧
      Good σ (upd σ h.next (.at w.heap.size 0 (xs ++ rest).toArray.size)) h (h.new (.cells l)) w (pushW w (.cells (xs ++ rest).toArray e)) := by
  have hl := hr.length
  refine hw.pushCells hf (by simp; omega) (nf0 _) ?_ ha (fun hh => absurd hh.2 (Nat.not_lt_zero _))
  rw [show (xs ++ rest).toArray.toList = xs ++ rest from rfl, ← hl, List.take_left]
  exact hr

theorem does_app {t u e ty : TypeId} {es b : Nat} {z : Value} {p q v : V} {x y : Value} (hs : appendV es b p q h = some (v, h')) (hw : WRel σ m h w) (hf : Free σ h.next h'.next) (ha : VRel σ m p x) (hb : VRel σ m q y)
    (hk : kindP P t = some (.slice e)) (hes : sizeP P e = some es) (hby : bytesP P e = some b) (hz : zeroP P e = some z) (hzs : z.cells.size = es) (h1b : 1 ≤ b) (hb6 : b ≤ 65536)
    (hu : (∃ e', kindP P u = some (.slice e')) ∨ kindP P u = some .string) :
    Does P σ m (do pure (.value (← Builtin.append_ #[t, u] ty #[x, y]))) v h h' w := by
  unfold appendV at hs
  split at hs
  · rename_i ys n hrow
    cases hya : allAtoms ys with
    | false => rw [hya] at hs; cases hs
    | true =>
      rw [hya] at hs
      simp only [cond_true] at hs
      obtain ⟨yv, hyr, hyl, hylen, hyf⟩ := row_first (P := P) hrow hw hb
      have hyfn := hyf n (Nat.le_refl _)
      rw [show yv.take (n * es) = yv from List.take_of_length_le (by omega)] at hyfn
      -- the same, behind a draw
      obtain ⟨yd, hydr, hydl, _, hydf⟩ := row_first (P := P) hrow (hw.redraw (w.drawn + 1)) hb
      have hydfn := hydf n (Nat.le_refl _)
      rw [show yd.take (n * es) = yd from List.take_of_length_le (by omega)] at hydfn
      have keep0 : n = 0 → ∀ (a : Option Addr) (len c : Nat), x = .slice a len c → len ≤ c → VRel σ m p (.slice a len c) → Does P σ m (do pure (.value (← Builtin.append_ #[t, u] ty #[x, y]))) p h h w := by
        intro hn0 a len c hx hlc hp
        subst hx; subst hn0
        have hyv : yv = [] := List.eq_nil_of_length_eq_zero (by rw [hyl]; simp)
        subst hyv
        refine .same (x := .slice a len c) hw ?_ hp
        have := run_append_fit (P := P) (w := w) (a := a) (ty := ty) (K := w) hk hes hu hylen hyfn (c := c) (len := len) (by omega) (by cases a <;> simp [storeCells])
        simpa using this
      unfold appTo at hs
      split at hs
      · have hx := litV_rel ha
        cases hn : Nat.beq n 0 with
        | true =>
          rw [hn] at hs; cases hs
          exact keep0 (Nat.eq_of_beq_eq_true hn) none 0 0 hx (Nat.le_refl _) (by simp only [VRel])
        | false =>
          rw [hn] at hs
          simp only [cond_false] at hs
          cases hm : appMost n b with
          | false => rw [hm] at hs; cases hs
          | true =>
            rw [hm] at hs
            have hmost : n * b ≤ 17592186044416 := Nat.le_of_ble_eq_true hm
            cases hs
            have hn0 : n ≠ 0 := fun e => by subst e; cases hn
            subst hx
            obtain ⟨nc, rest, g1, g2, g3⟩ := run_append_grow (P := P) (w := w) (a := none) (len := 0) (c := 0) (old := []) (ty := ty) hk hes hby hz hzs h1b hb6 (by simpa using hmost) hu hylen hydfn (by simp [Builtin.firstCells]) (by omega)
            obtain ⟨g4, g5⟩ := grown_rel (rest := rest) (e := e) (hw.redraw (w.drawn + 1)) (hf _ (Nat.le_refl _) (Nat.lt_succ_self _)) hydr hya
            refine .of_run (x := .slice (some ⟨w.heap.size, 0, none⟩) n nc) ?_ ?_ g4 g5.redraw
            · rw [g3]; simp
            · simp only [VRel, SRel, upd, if_true]
              refine ⟨nc, rfl, by omega, ?_, fun j e => by cases e⟩
              simp only [List.size_toArray, List.length_append, g2, hydl, Nat.zero_add]
              have : nc * es = n * es + (nc - n) * es := by rw [← Nat.add_mul]; congr 1; omega
              omega
      · cases hn : Nat.beq n 0 with
        | true =>
          rw [hn] at hs; cases hs
          have ha' := ha
          simp only [VRel] at ha'
          obtain ⟨blk, o, sp, c, hx, hlc, _⟩ := ha'
          exact keep0 (Nat.eq_of_beq_eq_true hn) _ _ _ hx hlc (by rw [← hx]; exact ha)
        | false => rw [hn] at hs; cases hs
      · rename_i bb off len es' cap
        cases he : (Nat.beq es es' && appMost (Nat.add len n) b) with
        | false => rw [he] at hs; cases hs
        | true =>
          rw [he] at hs
          rw [Bool.and_eq_true] at he
          have hee := Nat.eq_of_beq_eq_true he.1; subst hee
          have hmost : (len + n) * b ≤ 17592186044416 := Nat.le_of_ble_eq_true he.2
          simp only [cond_true, appSlc] at hs
          split at hs
          · rename_i l hl
            have hg := cellsOf_some (show cellsOf (h.get bb) = some l from hl)
            obtain ⟨blk, k, size, l', c, hg', hσ, hx, hlc, hsz, hcap, hlies⟩ := slc_live hw ha hg
            rw [hg] at hg'; cases hg'
            cases hn : Nat.beq n 0 with
            | true =>
              rw [hn] at hs; cases hs
              exact keep0 (Nat.eq_of_beq_eq_true hn) _ _ _ hx hlc (by rw [← hx]; exact ha)
            | false =>
              rw [hn] at hs
              have hn0 : n ≠ 0 := fun e => by subst e; cases hn
              simp only [cond_false, appOld] at hs
              split at hs
              · rename_i old hold
                obtain ⟨ho1, ho2⟩ := cut_some hold
                have hlat : allAtoms l = true := by obtain ⟨_, _, _, _, _, _, _, _, hh⟩ := hlies; exact hh.1
                have hoa : allAtoms old = true := by rw [ho1]; exact allAtoms_sub hlat fun v hv => List.mem_of_mem_drop (List.mem_of_mem_take hv)
                have hcell : h.row es (.slc bb off len es cap) = some (old, len) := by
                  show cond (Nat.beq es es) (withLen len (cutO (h.cells bb) off (Nat.mul len es))) none = _
                  rw [Nat.beq_refl, hl]
                  show withLen len (cut l off (Nat.mul len es)) = _
                  rw [hold]; rfl
                obtain ⟨od, hodr, hodl, _, hodf⟩ := row_first (P := P) hcell (hw.redraw (w.drawn + 1)) ha
                have hodn := hodf len (Nat.le_refl _)
                rw [show od.take (len * es) = od from List.take_of_length_le (by omega)] at hodn
                subst hx
                have grow : (¬ len + n ≤ c) → ∀ σ1 h1, WRel σ1 m h1 { w with drawn := w.drawn + 1 } → Good σ σ1 h h1 { w with drawn := w.drawn + 1 } { w with drawn := w.drawn + 1 } → σ1 h1.next = none → LRel σ1 m (old ++ ys) (od ++ yd) → h1.next = h.next →
                    Does P σ m (do pure (.value (← Builtin.append_ #[t, u] ty #[.slice (some ⟨blk, k + off, none⟩) len c, y]))) (.slc h.next 0 (len + n) es none) h (h1.new (.cells (old ++ ys))) w := by
                  intro hnf σ1 h1 hw1 hg1 hf1 hr1 hnx
                  obtain ⟨nc, rest, g1, g2, g3⟩ := run_append_grow (P := P) (w := w) (a := some ⟨blk, k + off, none⟩) (len := len) (c := c) (old := od) (ty := ty) hk hes hby hz hzs h1b hb6 hmost hu hylen hydfn hodn hnf
                  obtain ⟨g4, g5⟩ := grown_rel (rest := rest) (e := e) hw1 hf1 hr1 (allAtoms_append hoa hya)
                  refine .of_run (x := .slice (some ⟨w.heap.size, 0, none⟩) (len + n) nc) ?_ ?_ g4 (Good.redraw (Good.trans (fun b1 h2 h3 => by omega) hg1 g5))
                  · rw [g3]
                  · simp only [VRel, SRel, upd, hnx, if_true]
                    refine ⟨nc, rfl, g1, ?_, fun j e => by cases e⟩
                    simp only [List.size_toArray, List.length_append, g2, hydl, hodl]
                    have h6 : nc * es = (len + n) * es + (nc - (len + n)) * es := by rw [← Nat.add_mul]; congr 1; omega
                    have h7 : (len + n) * es = len * es + n * es := Nat.add_mul _ _ _
                    omega
                have hbn : bb < h.next := by
                  rcases Nat.lt_or_ge bb h.next with h1 | h1
                  · exact h1
                  · have := hw.fresh bb h1; rw [hg] at this; cases this
                obtain ⟨hkb, hcases⟩ := appCap_cases hs
                rcases hcases with ⟨hc0, rfl, rfl⟩ | ⟨c', hc0, hc1, hc2, rfl, rfl⟩ | ⟨c', hc0, hc1, rfl, rfl⟩
                · have hkb : keepB l ys = true := hkb.resolve_right (by rw [hc0]; intro e; cases e)
                  have hfn : σ h.next = none := hf _ (Nat.le_refl _) (by rw [H.next_new, H.next_set]; omega)
                  by_cases hfit : len + n ≤ c
                  · -- in place
                    have hlies0 : Lies σ m w blk (k + off) size old := by
                      obtain ⟨cc, ce, cf, c1, c2, c3, c4, c5, c6⟩ := hlies
                      refine ⟨cc, ce, cf, c1, c2, ?_, c4, ?_, hoa, fun hh => ?_⟩
                      · rw [ho2]
                        have : len * es ≤ c * es := Nat.mul_le_mul_right _ hlc
                        show k + off + len * es ≤ size
                        omega
                      · have h8 := LRel.take (len * es) (LRel.drop off c5)
                        have h9 : old.length = len * es := ho2
                        rw [ho1, show ((l.drop off).take (Nat.mul len es)).length = len * es from by rw [← ho1]; exact ho2]
                        have : ((((cc.toList.drop k).take l.length).drop off).take (len * es)) = (cc.toList.drop (k + off)).take (len * es) := by
                          have hle : off + len * es ≤ l.length ∨ len * es = 0 := by
                            by_cases h0 : len * es = 0
                            · exact .inr h0
                            · left
                              rw [ho1, List.length_take, List.length_drop] at h9
                              omega
                          apply List.ext_getElem?
                          intro i
                          simp only [List.getElem?_take, List.getElem?_drop]
                          by_cases hi : i < len * es
                          · rw [if_pos hi, if_pos hi, if_pos (by omega), Nat.add_assoc]
                          · rw [if_neg hi, if_neg hi]
                        rw [← this]; exact h8
                      · have h10 := c6.2 hh
                        rw [allB_iff] at h10 ⊢
                        rw [ho1]
                        exact fun v hv => h10 v (List.mem_of_mem_drop (List.mem_of_mem_take hv))
                    obtain ⟨t1, t2⟩ := hw.taken hg hσ hfn hlies0
                    let σ1 := upd (kill σ bb) h.next (.at blk (k + off) size)
                    have hσ1 : σ1 h.next = some (.at blk (k + off) size) := by simp [σ1, upd]
                    obtain ⟨cc, ce, cf, c1, c2, c3, c4, c5, c6⟩ := hlies0
                    have hall : cf.1 ≤ size ∧ size < cf.2 → allB l = true := by
                      obtain ⟨cc2, ce2, cf2, d1, d2, _, _, _, d6⟩ := hlies
                      rw [c1] at d1; cases d1
                      exact d6.2
                    have hyr1 : LRel σ1 m ys yv := LRel.ext t2.ext _ _ hyr
                    have hend : k + off + len * es + yv.length ≤ cc.size := by
                      rw [c2, hyl]
                      have h6 : (len + n) * es ≤ c * es := Nat.mul_le_mul_right _ hfit
                      have h7 : (len + n) * es = len * es + n * es := Nat.add_mul _ _ _
                      omega
                    have hst := run_storeCells (P := P) yv 0 w cc ce cf c1 (off := k + off + len * es) (by omega) (by rw [c2]; exact c4) (atoms_rel hyr hya)
                    simp only [Nat.add_zero] at hst
                    have hg1 : ((h.set bb none).new (.cells old)).get h.next = some (.cells old) := by rw [H.get_new, H.next_set, if_pos rfl]
                    have hpk := t1.poke (l' := old ++ ys) hg1 hσ1 c1 (c' := (cc.toList.take (k + off + len * es) ++ yv ++ cc.toList.drop (k + off + len * es + yv.length)).toArray) (by simp; omega) (by
                        rw [List.length_append, ho2, show ys.length = n * es from by rw [← hyr.length]; exact hyl]
                        have h6 : (len + n) * es ≤ c * es := Nat.mul_le_mul_right _ hfit
                        have h7 : (len + n) * es = len * es + n * es := Nat.add_mul _ _ _
                        show k + off + (len * es + n * es) ≤ size
                        omega) (by
                        have hol : old.length = len * es := ho2
                        have hysl : ys.length = yv.length := hyr.length.symm
                        have : ((cc.toList.take (k + off + len * es) ++ yv ++ cc.toList.drop (k + off + len * es + yv.length)).drop (k + off)).take (old ++ ys).length = (cc.toList.drop (k + off)).take old.length ++ yv := by
                          have hccl : cc.toList.length = cc.size := by simp
                          apply List.ext_getElem?
                          intro i
                          simp only [List.getElem?_take, List.getElem?_drop, List.getElem?_append, List.length_append, List.length_take, List.length_drop, hol, hysl, hccl]
                          have m1 : min (k + off + len * es) cc.size = k + off + len * es := by omega
                          have m2 : min (len * es) (cc.size - (k + off)) = len * es := by omega
                          rw [m1, m2]
                          by_cases i1 : i < len * es
                          · simp only [i1, show i < len * es + yv.length from by omega, show k + off + i < k + off + len * es + yv.length from by omega, show k + off + i < k + off + len * es from by omega, if_true]
                          · by_cases i2 : i < len * es + yv.length
                            · simp only [i1, i2, show k + off + i < k + off + len * es + yv.length from by omega, show ¬ k + off + i < k + off + len * es from by omega, if_true, if_false]
                              rw [show k + off + i - (k + off + len * es) = i - len * es from by omega]
                            · simp only [i1, i2, if_false]
                              rw [List.getElem?_eq_none (by omega)]
                        rw [show ((cc.toList.take (k + off + len * es) ++ yv ++ cc.toList.drop (k + off + len * es + yv.length)).toArray).toList = cc.toList.take (k + off + len * es) ++ yv ++ cc.toList.drop (k + off + len * es + yv.length) from rfl, this]
                        exact LRel.append (LRel.ext t2.ext _ _ c5) hyr1) (allAtoms_append hoa hya) (fun hh => allB_append (c6.2 hh) (keepB_allB hkb (hall hh)))
                    have hheq := kill_new_set h bb (.cells old) (.cells (old ++ ys))
                    refine .of_run (x := .slice (some ⟨blk, k + off, none⟩) (len + n) c) (w' := setC w blk (cc.toList.take (k + off + len * es) ++ yv ++ cc.toList.drop (k + off + len * es + yv.length)).toArray) (σ' := σ1) ?_ ?_ (hpk.1.congr hheq)
                      ((Good.trans (fun b1 h2 h3 => hf b1 h2 (by rw [H.next_new, H.next_set] at h3 ⊢; exact h3)) t2 hpk.2).congr hheq)
                    · refine run_append_fit (P := P) (w := w) hk hes hu hylen hyfn hfit ?_
                      show (storeCells ((⟨blk, k + off, none⟩ : Addr).add (len * es)) yv).run P w = _
                      rw [add_none, hst]
                    · simp only [VRel, SRel, hσ1]
                      exact ⟨c, by simp, hfit, by simpa using hsz, fun j e => by cases e⟩
                  · -- a new row
                    obtain ⟨k1, k2⟩ := (hw.redraw (w.drawn + 1)).killed bb (by rw [hg]; exact fun e => by cases e)
                    refine grow hfit (kill σ bb) (h.set bb none) k1 k2 ?_ (LRel.ext k2.ext _ _ (LRel.append hodr hydr)) rfl
                    show kill σ bb h.next = none
                    simp [kill, Ne.symm (Nat.ne_of_lt hbn), hfn]
                · have hkb : keepB l ys = true := hkb.resolve_right (by
                    rw [hc0]
                    show (!Nat.ble (len + n) c') ≠ true
                    rw [Nat.ble_eq_true_of_le hc1]; intro e; cases e)
                  have hcc := hcap c' hc0; subst hcc
                  have hysl : ys.length = n * es := by rw [← hyr.length]; exact hyl
                  have h7 : (len + n) * es = len * es + n * es := Nat.add_mul _ _ _
                  obtain ⟨w', p1, p2, p3⟩ := put_rel (P := P) (off := off + len * es) hw hg hσ hlies (by omega) hya hkb hyr
                  refine .of_run (x := .slice (some ⟨blk, k + off, none⟩) (len + n) c) (w' := w') (σ' := σ) ?_ ?_ p2 p3
                  · refine run_append_fit (P := P) (w := w) hk hes hu hylen hyfn hc1 ?_
                    show (storeCells ((⟨blk, k + off, none⟩ : Addr).add (len * es)) yv).run P w = _
                    rw [add_none, Nat.add_assoc, p1]
                  · simp only [VRel, SRel, hσ]
                    exact ⟨c, rfl, hc1, hsz, hcap⟩
                · have hcc := hcap c' hc0; subst hcc
                  exact grow hc1 σ h (hw.redraw (w.drawn + 1)) (Good.refl _ _ _) (hf _ (Nat.le_refl _) (Nat.lt_succ_self _)) (LRel.append hodr hydr) rfl
              · cases hs
          · cases hs
      · cases hs
  · cases hs

end
end A
end Go.Proofs.YtcohlhplpogopaaGreat

