/-
  package wire: bytes that are not as they should be. (No statement of the seat is proved here.)
-/
import Derived.Test.YtcohlhplpogopaaGreatWe
set_option linter.unusedSimpArgs false
set_option linter.unusedVariables false
namespace Go.Proofs.YtcohlhplpogopaaGreat
namespace A

/- functions that defer one call -/
def mOf : E → Option M
  | .nor => some .ret
  | .ret => some .ret
  | .pan v => some (.pan v)
  | .ex _ => none
def kRec (sp : Sp) (fs : Fs) (f : F) (Q : Ret → H → Prop) (e : E) (st : St) : Prop :=
  ∃ id captured args g t u m, st.df = [⟨.fn (.func id) [] captured, args⟩] ∧ fs id = some g ∧ g.pre = some (t, u) ∧ g.res = [] ∧ mOf e = some m ∧
    WC sp fs g.body ⟨((pad (appL args captured)).put t (recV m)).put u (recV m), [], st.h⟩ (fun e' st' => (e' = .nor ∨ e' = .ret) ∧ st'.df = [] ∧ kDone f.res Q st.tm st'.h)

theorem WF_enterD {sp : Sp} {fs : Fs} {id : FuncId} {f : F} {vs : List V} {h : H} {Q : Ret → H → Prop} (hs : sp id = none) (hf : fs id = some f) (hp : f.pre = none) (hw : WC sp fs f.body ⟨pad vs, [], h⟩ (kRec sp fs f Q)) : WF sp fs id vs h Q := by
  obtain ⟨e, ⟨tm, df, h1⟩, ⟨n0, hr⟩, id', captured, args, g, t, u, m, hdf, hg, hgp, hgr, hm, hw2⟩ := WC_sound hw
  simp only at hdf hw2
  subst hdf
  obtain ⟨e', ⟨tm', df', h2⟩, ⟨n1, hr2⟩, he', hdf', hdone⟩ := WC_sound hw2
  simp only at hdf' hdone
  subst hdf'
  obtain ⟨l, hl, hq⟩ : ∃ l, resV f.res tm h2 = some l ∧ Q (.ok (oneOf l)) h2 := by
    unfold kDone at hdone
    split at hdone
    · rename_i l hl; exact ⟨l, hl, hdone⟩
    · exact hdone.elim
  refine ⟨.ok (oneOf l), h2, ⟨max n0 n1 + 1, fun n hn => ?_⟩, hq⟩
  obtain ⟨n, rfl⟩ : ∃ i, n = i + 1 := ⟨n - 1, by omega⟩
  have hd : evD ckC (evF ckC sp fs n) n fs ⟨.fn (.func id') [] captured, args⟩ m h1 = some (.ret, h2) := by
    show dFn ckC (evF ckC sp fs n) n (appL args captured) m h1 (fs id') = _
    rw [hg]
    show dBody ckC (evF ckC sp fs n) n g (appL args captured) m h1 g.pre = _
    rw [hgp]
    show dRec g.res (evC g.body ckC (evF ckC sp fs n) n _) = _
    rw [hgr, hr2 n (by omega)]
    rcases he' with rfl | rfl <;> rfl
  have hlv : leave [⟨.fn (.func id') [] captured, args⟩] ckC (evF ckC sp fs n) n fs m h1 = some (.ret, h2) := by
    show leaveN (leave []) ckC (evF ckC sp fs n) n fs (evD ckC (evF ckC sp fs n) n fs ⟨.fn (.func id') [] captured, args⟩ m h1) = _
    rw [hd]; rfl
  show fSp ckC (evF ckC sp fs n) n fs id vs h (sp id) = _
  rw [hs]
  show fGo ckC (evF ckC sp fs n) n fs vs h (fs id) = _
  rw [hf]
  show fBody ckC (evF ckC sp fs n) n fs f vs h f.pre = _
  rw [hp]
  show fOut ckC (evF ckC sp fs n) n fs f (evC f.body ckC (evF ckC sp fs n) n ⟨pad vs, [], h⟩) = _
  rw [hr n (by omega)]
  have hend : fEnd f tm (leave [⟨.fn (.func id') [] captured, args⟩] ckC (evF ckC sp fs n) n fs m h1) = some (.ok (oneOf l), h2) := by
    rw [hlv]
    show retL h2 (resV f.res tm h2) = _
    rw [hl]; rfl
  cases e with
  | nor => cases hm; exact hend
  | ret => cases hm; exact hend
  | pan v => cases hm; exact hend
  | ex i => cases hm

theorem deferV_fn (d : Option Nat) (st : St) (id : FuncId) (a b args : List V) : deferV d st (.fn (.func id) a b) args = some (.go ⟨setD d undefV st.tm, ⟨.fn (.func id) [] b, appL a args⟩ :: st.df, st.h⟩) := rfl
theorem kOut_go (K : St → Prop) (st : St) : kOut K (some (.go st)) = K st := rfl
theorem kPan_ifc (st : St) (Kp : V → St → Prop) (t : TypeId) (v : V) : kPan st Kp (.ifc t v) = Kp (.ifc t v) st := rfl
theorem eqNil_ifc (h : H) (t : TypeId) (v : V) : cond (isNK .ifc (.ifc t v)) (okB h true (isNil h (.ifc t v))) none = some (bool true, h) := rfl
theorem kDone_cell1 {t : Nat} {Q : Ret → H → Prop} {tm : TM} {h : H} {v : V} (hg : h.at1 (tm.nth t) = some v) (hq : Q (.ok v) h) : kDone [.cell t none] Q tm h := by
  have : resV [.cell t none] tm h = some [v] := by
    show consV (h.at1 (tm.nth t)) (some []) = _
    rw [hg]; rfl
  unfold kDone
  rw [this]
  exact hq
theorem kDone_cells {t u n : Nat} {Q : Ret → H → Prop} {tm : TM} {h : H} {l : List V} (hg : h.at (tm.nth t) n = some l) (hq : Q (.ok (.tup [.agg l, tm.nth u])) h) : kDone [.cell t (some n), .tmp u] Q tm h := by
  have : resV [.cell t (some n), .tmp u] tm h = some [.agg l, tm.nth u] := by
    show consV (aggO (h.at (tm.nth t) n)) (some [tm.nth u]) = _
    rw [hg]; rfl
  unfold kDone
  rw [this]
  exact hq

/-- a call that panics, tried. -/
theorem attempt_wf {h : H} {Q : Ret → H → Prop} {id : FuncId} {cap : List V} (hf : HF h) (hc : ∀ h1, Le h h1 → WF sp2 fs id cap h1 (fun r h2 => Le h1 h2 ∧ ∃ t v, r = .pan (.ifc t v))) (hq : ∀ h', Le h h' → Q (.ok (bool false)) h') :
    WF sp2 fs 56 [.fn (.func id) [] cap] h Q := by
  refine WF_enterD (f := f56) rfl rfl rfl ?_
  have l1 : Le h (h.new (.cells [bool false])) := Upd.new hf _
  simp only [f56, walk, WAct, natOf_int, natOf_lit, List.nil_append, List.cons_append, List.append_nil, if_true, if_false, reduceIte, Nat.reduceEqDiff, Nat.zero_add, Nat.reduceAdd, deferV_fn, kOut_go]
  refine (hc _ l1).mono fun r h2 hr => ?_
  obtain ⟨le2, t, v, rfl⟩ := hr
  simp only [walk, WAct, natOf_int, natOf_lit, List.nil_append, List.cons_append, List.append_nil, if_true, if_false, reduceIte, Nat.reduceEqDiff, Nat.zero_add, Nat.reduceAdd]
  have hg : h2.get h.next = some (.cells [bool false]) := le2.get l1.fresh (H.get_new_self _ _) (by simp)
  have s1 := store_ptr (off := 0) (n := 1) (xs := [bool false]) hg rfl (Nat.le_refl _) rfl (keepB_of ⟨bool false, by simp, rfl⟩)
  rw [show wr [bool false] 0 [bool false] = [bool false] from rfl] at s1
  refine ⟨137, [.ptr h.next 0], [], f137, 2, 1, .pan (.ifc t v), rfl, rfl, rfl, rfl, rfl, ?_⟩
  have happ : appL ([] : List V) [V.ptr h.next 0] = [.ptr h.next 0] := rfl
  have hrec : recV (.pan (.ifc t v)) = .ifc t v := rfl
  have hce : V.cells (bool false) = [bool false] := rfl
  simp only [f137, walk, WAct, natOf_int, natOf_lit, List.nil_append, List.cons_append, List.append_nil, if_true, if_false, reduceIte, Nat.reduceEqDiff, Nat.zero_add, Nat.reduceAdd, happ, hrec, eqNil_ifc, hce, s1]
  refine ⟨.inl trivial, trivial, ?_⟩
  have hlt := le2.fresh.lt hg
  have g3 : (h2.set h.next (some (.cells [bool false]))).get h.next = some (.cells [bool false]) := by rw [H.get_set, if_pos rfl]
  have b3 := H.at1_ptr (off := 0) g3
  refine kDone_cell1 (v := bool false) ?_ (hq _ ⟨?_, fun b hb _ => ?_, ?_⟩)
  · simp only [walk, WAct, natOf_int, natOf_lit, List.nil_append, List.cons_append, List.append_nil, if_true, if_false, reduceIte, Nat.reduceEqDiff, Nat.zero_add, Nat.reduceAdd]; exact b3
  · have := l1.le; have := le2.le; rw [H.next_set]; omega
  · rw [H.get_set, if_neg (by omega), le2.same b (Nat.lt_of_lt_of_le hb l1.le) (by simp), l1.same b hb (by simp)]
  · exact (Upd.set (S := fun _ => True) le2.fresh _ trivial hlt).fresh

theorem sliceSV_str (s : List UInt8) (tm : TM) (lo hi : Option X) (h : H) : sliceSV (str s) tm lo hi h = sliceSN s (bound tm lo 0) (bound tm hi s.length) h := rfl
theorem bound_none (tm : TM) (d : Nat) : bound tm none d = some d := rfl
theorem bound_some (tm : TM) (x : X) (d : Nat) : bound tm (some x) d = natOf (x.ev tm) := rfl
theorem sliceSN_ok {s : List UInt8} {l hi : Nat} {h : H} (h1 : l ≤ hi) (h2 : hi ≤ s.length) : sliceSN s (some l) (some hi) h = some (str ((s.drop l).take (hi - l)), h) := by
  show cond (and (Nat.ble l hi) (Nat.ble hi s.length)) _ none = _
  rw [Nat.ble_eq_true_of_le h1, Nat.ble_eq_true_of_le h2]; rfl
theorem strb_str (s : List UInt8) (h : H) : strbV (str s) h = some (.slc h.next 0 s.length 1 none, h.new (.cells (s.map byteV))) := rfl
theorem ar_neqS (a b : List UInt8) : ar .neq (str a) (str b) = some (bool (!decide (a = b))) := by
  show some (litB (not (eqBytes a b))) = _
  rw [eqBytes_eq]
  have : (a == b) = decide (a = b) := by rw [Bool.eq_iff_iff]; simp
  rw [this]; rfl
theorem ar_eqlS (a b : List UInt8) : ar .eql (str a) (str b) = some (bool (decide (a = b))) := by
  show some (litB (eqBytes a b)) = _
  rw [eqBytes_eq]
  have : (a == b) = decide (a = b) := by rw [Bool.eq_iff_iff]; simp
  rw [this]; rfl
theorem ar_neqB (a b : UInt8) : ar .neq (byteV a) (byteV b) = some (bool (!decide (a = b))) := by
  show ar .neq (.lit (.int .u8 (Int.ofNat a.toNat))) (.lit (.int .u8 (Int.ofNat b.toNat))) = _
  rw [ar_neq]
  congr 3
  rw [decide_eq_decide]
  constructor
  · intro e; exact UInt8.toNat_inj.1 (Int.ofNat.inj e)
  · rintro rfl; rfl
theorem idxSV_zero {s : List UInt8} {b : UInt8} (hb : s[0]? = some b) (h : H) : idxSV (str s) (some 0) h = some (byteV b, h) := by
  show byteO (s[0]?) h = _
  rw [hb]; rfl

/-- whether bytes end with their check sum. -/
def goodB (s : List UInt8) : Prop := sumB (s.take (s.length - 2)) = s.drop (s.length - 2)

theorem bstr_own {h : H} {v : V} {bs : List UInt8} (hr : h.row 1 v = some (bs.map byteV, bs.length)) (hs : ∀ q, v ≠ .lit (.string q)) : bstrV v h = some (str bs, h) := by
  have : bstrV v h = bstrR (h.row 1 v) h := by
    cases v with
    | lit x => cases x <;> first | rfl | exact absurd rfl (hs _)
    | _ => rfl
  rw [this, hr]
  show okStr h (bytesOf _) = _
  rw [bytesOf_map]; rfl

theorem start_bad {h : H} {Q : Ret → H → Prop} {s : List UInt8} {first : UInt8} (hf : HF h) (h3 : 3 ≤ s.length) (hl : s.length ≤ 80000) (hbad : ¬ goodB s) (hq : ∀ h' v, Le h h' → Q (.pan (.ifc 228 v)) h') : WF sp2 fs 58 [str s, byteV first] h Q := by
  refine WF_enter (f := f58) rfl rfl rfl ?_
  have hsl := fun h => str_len s h
  have hw : IntKind.i64.wrap ((s.length : Int) - 2) = ((s.length - 2 : Nat) : Int) := by rw [wrap64_in (by omega) (by omega)]; omega
  have e1 : decide (((s.length - 2 : Nat) : Int) < 1) = false := by simp; omega
  obtain ⟨b0, hb0⟩ : ∃ b, s[0]? = some b := ⟨s[0], List.getElem?_eq_getElem (by omega)⟩
  have i0 := fun h => idxSV_zero hb0 h
  have i1 : natOf (.lit (.int .i64 0)) = some 0 := rfl
  have k1 : kPan = kPan := rfl
  have hbl : ∀ tm : TM, fillV [] tm [] = some [] := fun _ => rfl
  by_cases e : b0 = first
  · have e2 : decide (b0 = first) = true := by simp [e]
    have sl1 := fun h => sliceSN_ok (s := s) (l := 0) (hi := s.length - 2) (h := h) (Nat.zero_le _) (by omega)
    have sl2 := fun h => sliceSN_ok (s := s) (l := s.length - 2) (hi := s.length) (h := h) (by omega) (Nat.le_refl _)
    rw [List.drop_zero, Nat.sub_zero] at sl1
    rw [List.take_of_length_le (by rw [List.length_drop]; omega)] at sl2
    have l1 : Le h (h.new (.cells ((s.take (s.length - 2)).map byteV))) := Upd.new hf _
    have htl : (s.take (s.length - 2)).length = s.length - 2 := by rw [List.length_take]; omega
    have o1 : Own (h.new (.cells ((s.take (s.length - 2)).map byteV))) 1 (.slc h.next 0 (s.take (s.length - 2)).length 1 none) ((s.take (s.length - 2)).map byteV) (s.take (s.length - 2)).length :=
      .inr ⟨h.next, none, rfl, .inl rfl, H.get_new_self _ _, by rw [List.length_map, Nat.mul_one], by omega, by rw [List.length_map]; omega⟩
    simp (config := { maxSteps := 5000000 }) only [f58, walk, WAct, natOf_int, natOf_lit, List.nil_append, List.cons_append, List.append_nil, if_true, if_false, reduceIte, Nat.reduceEqDiff, Nat.zero_add, Nat.reduceAdd, WC_regD, WDs_nil, WDs_loud, WDs_pure, WDs_made, WDs_read, kReadW_t, kReadW_f, kRead_some, CkP_nil, CkP_cons, CkRecP_nil, CkRecP_cons, List.length_cons, List.length_nil, exH, Nat.reduceLeDiff, and_true, true_and, and_false, false_and, true_implies, false_implies, hsl, hw, e1, stepO_idxS, i0, i1, ar_neqB, e2, Bool.not_true, stepO_sliceS, stepO_strb, sliceSV_str, bound_none, bound_some, sl1, strb_str]
    refine sum_wf ⟨o1.row, o1.nk⟩ (by omega) ?_
    have hrow : ∀ {hh : H}, hh.get (h.next + 1) = some (.cells ((sumB (s.take (s.length - 2))).map byteV)) → hh.row 1 (.slc (h.next + 1) 0 2 1 (some 2)) = some ((sumB (s.take (s.length - 2))).map byteV, (sumB (s.take (s.length - 2))).length) := by
      intro hh hg
      show cond (Nat.beq 1 1) (withLen 2 (cutO (hh.cells (h.next + 1)) 0 (2 * 1))) none = _
      rw [Nat.beq_refl, H.cells_of hg]; rfl
    have l2 : Le (h.new (.cells ((s.take (s.length - 2)).map byteV))) ((h.new (.cells ((s.take (s.length - 2)).map byteV))).new (.cells ((sumB (s.take (s.length - 2))).map byteV))) := Upd.new l1.fresh _
    have hbs := bstr_own (hrow (H.get_new_self (h.new (.cells ((s.take (s.length - 2)).map byteV))) (.cells ((sumB (s.take (s.length - 2))).map byteV)))) (fun q => by simp)
    have hne : decide (sumB (s.take (s.length - 2)) = s.drop (s.length - 2)) = false := by rw [decide_eq_false_iff_not]; exact hbad
    generalize hh2 : (h.new (.cells ((s.take (s.length - 2)).map byteV))).new (.cells ((sumB (s.take (s.length - 2))).map byteV)) = h2 at l2 hbs ⊢
    have hnx : (h.new (.cells ((s.take (s.length - 2)).map byteV))).next = h.next + 1 := rfl
    simp (config := { maxSteps := 5000000 }) only [walk, WAct, natOf_int, natOf_lit, List.nil_append, List.cons_append, List.append_nil, if_true, if_false, reduceIte, Nat.reduceEqDiff, Nat.zero_add, Nat.reduceAdd, WC_regD, WDs_nil, WDs_loud, WDs_pure, WDs_made, WDs_read, kReadW_t, kReadW_f, kRead_some, CkP_nil, CkP_cons, CkRecP_nil, CkRecP_cons, List.length_cons, List.length_nil, exH, Nat.reduceLeDiff, and_true, true_and, and_false, false_and, true_implies, false_implies, hnx, stepO_bstr, hbs, hw, e1, stepO_idxS, i0, i1, ar_neqB, e2, stepO_sliceS, sliceSV_str, bound_none, bound_some, sl2, ar_neqS, hne, Bool.not_false, hbl, kPan_ifc]
    exact hq _ _ (l1.trans l2)
  · have e2 : decide (b0 = first) = false := by simp [e]
    simp (config := { maxSteps := 5000000 }) only [f58, walk, WAct, natOf_int, natOf_lit, List.nil_append, List.cons_append, List.append_nil, if_true, if_false, reduceIte, Nat.reduceEqDiff, Nat.zero_add, Nat.reduceAdd, WC_regD, WDs_nil, WDs_loud, WDs_pure, WDs_made, WDs_read, kReadW_t, kReadW_f, kRead_some, CkP_nil, CkP_cons, CkRecP_nil, CkRecP_cons, List.length_cons, List.length_nil, exH, Nat.reduceLeDiff, and_true, true_and, and_false, false_and, true_implies, false_implies, hsl, hw, e1, stepO_idxS, i0, i1, ar_neqB, e2, Bool.not_false, hbl, kPan_ifc]
    exact hq _ _ (Upd.refl hf)

end A
end Go.Proofs.YtcohlhplpogopaaGreat

namespace Go.Proofs.YtcohlhplpogopaaGreat
namespace A

theorem closP_bad {h : H} {s : List UInt8} {b c : Nat} (hf : HF h) (hg : h.get b = some (.cells [str s])) (h3 : 3 ≤ s.length) (hl : s.length ≤ 80000) (hbad : ¬ goodB s) :
    WF sp2 fs 57 [.ptr b 0, .ptr c 0] h (fun r h2 => Le h h2 ∧ ∃ t v, r = .pan (.ifc t v)) := by
  refine WF_enter (f := f57) rfl rfl rfl ?_
  have b0 := H.at1_ptr (off := 0) hg
  simp only [List.getElem?_cons_zero] at b0
  simp only [f57, walk, WAct, natOf_int, natOf_lit, List.nil_append, List.cons_append, List.append_nil, if_true, if_false, reduceIte, Nat.reduceEqDiff, Nat.zero_add, Nat.reduceAdd, b0]
  refine start_bad (first := 80) hf h3 hl hbad fun h' v hle => ?_
  simp only [walk, WAct, natOf_int, natOf_lit, List.nil_append, List.cons_append, List.append_nil, if_true, if_false, reduceIte, Nat.reduceEqDiff, Nat.zero_add, Nat.reduceAdd]
  exact ⟨hle, 228, v, rfl⟩
theorem closO_bad {h : H} {s : List UInt8} {b c : Nat} (hf : HF h) (hg : h.get b = some (.cells [str s])) (h3 : 3 ≤ s.length) (hl : s.length ≤ 80000) (hbad : ¬ goodB s) :
    WF sp2 fs 60 [.ptr b 0, .ptr c 0] h (fun r h2 => Le h h2 ∧ ∃ t v, r = .pan (.ifc t v)) := by
  refine WF_enter (f := f60) rfl rfl rfl ?_
  have b0 := H.at1_ptr (off := 0) hg
  simp only [List.getElem?_cons_zero] at b0
  simp only [f60, walk, WAct, natOf_int, natOf_lit, List.nil_append, List.cons_append, List.append_nil, if_true, if_false, reduceIte, Nat.reduceEqDiff, Nat.zero_add, Nat.reduceAdd, b0]
  refine start_bad (first := 77) hf h3 hl hbad fun h' v hle => ?_
  simp only [walk, WAct, natOf_int, natOf_lit, List.nil_append, List.cons_append, List.append_nil, if_true, if_false, reduceIte, Nat.reduceEqDiff, Nat.zero_add, Nat.reduceAdd]
  exact ⟨hle, 228, v, rfl⟩

theorem Parcel_bad {h : H} {Q : Ret → H → Prop} {s : List UInt8} (hf : HF h) (h3 : 3 ≤ s.length) (hl : s.length ≤ 80000) (hbad : ¬ goodB s) (hq : ∀ h', Le h h' → Q (.ok (.tup [.agg [.lit (.slice none 0 0), .lit (.slice none 0 0), .lit (.slice none 0 0)], int 4])) h') :
    WF sp2 fs 19 [str s] h Q := by
  refine WF_enter (f := f19) rfl rfl rfl ?_
  have hsl := fun h => str_len s h
  have e1 : decide ((80000 : Int) < (s.length : Int)) = false := by simp; omega
  have hbx : boxL (V.cells (str s)) h = some (.ptr h.next 0, h.new (.cells [str s])) := rfl
  have l1 : Le h (h.new (.cells [str s])) := Upd.new hf _
  have hg1 := H.get_new_self h (.cells [str s])
  generalize hh1 : h.new (.cells [str s]) = h1 at hbx l1 hg1
  have hn1 : h1.next = h.next + 1 := by rw [← hh1]; rfl
  have l2 : Le h1 (h1.new (.cells [.lit (.slice none 0 0), .lit (.slice none 0 0), .lit (.slice none 0 0)])) := Upd.new l1.fresh _
  have hg2 := H.get_new_self h1 (.cells [.lit (.slice none 0 0), .lit (.slice none 0 0), .lit (.slice none 0 0)])
  have hb2 := l2.get l1.fresh hg1 (by simp)
  have l3 : Le (h1.new (.cells [.lit (.slice none 0 0), .lit (.slice none 0 0), .lit (.slice none 0 0)])) ((h1.new (.cells [.lit (.slice none 0 0), .lit (.slice none 0 0), .lit (.slice none 0 0)])).new (.cells [.lit (.slice none 0 0), .lit (.slice none 0 0), .lit (.slice none 0 0)])) := Upd.new l2.fresh _
  have hb3 := l3.get l2.fresh hb2 (by simp)
  have hc3 := l3.get l2.fresh hg2 (by simp)
  have b2 := H.at1_ptr (off := 0) hb2
  simp only [List.getElem?_cons_zero] at b2
  simp (config := { maxSteps := 5000000 }) only [f19, walk, WAct, natOf_int, natOf_lit, List.nil_append, List.cons_append, List.append_nil, if_true, if_false, reduceIte, Nat.reduceEqDiff, Nat.zero_add, Nat.reduceAdd, WC_regD, WDs_nil, WDs_loud, WDs_pure, WDs_made, WDs_read, kReadW_t, kReadW_f, kRead_some, CkP_nil, CkP_cons, CkRecP_nil, CkRecP_cons, List.length_cons, List.length_nil, exH, Nat.reduceLeDiff, and_true, true_and, and_false, false_and, true_implies, false_implies, hbx, b2, hsl, e1, stepO_func]
  refine attempt_wf l3.fresh (fun h4 l4 => closP_bad l4.fresh (l4.get l3.fresh hb3 (by simp)) h3 hl hbad) fun h4 l4 => ?_
  have hc4 := l4.get l3.fresh hc3 (by simp)
  have hfv : ∀ tm : TM, fillV [] tm [V.lit (Value.slice none 0 0), .lit (.slice none 0 0), .lit (.slice none 0 0)] = some [.lit (.slice none 0 0), .lit (.slice none 0 0), .lit (.slice none 0 0)] := fun _ => rfl
  have hce : V.cells (.agg [V.lit (Value.slice none 0 0), .lit (.slice none 0 0), .lit (.slice none 0 0)]) = [.lit (.slice none 0 0), .lit (.slice none 0 0), .lit (.slice none 0 0)] := rfl
  have s1 := store_ptr (off := 0) (n := 3) (xs := [.lit (.slice none 0 0), .lit (.slice none 0 0), .lit (.slice none 0 0)]) hc4 rfl (Nat.le_refl _) rfl (keepB_of ⟨.lit (.slice none 0 0), by simp, rfl⟩)
  rw [show wr [V.lit (Value.slice none 0 0), .lit (.slice none 0 0), .lit (.slice none 0 0)] 0 [.lit (.slice none 0 0), .lit (.slice none 0 0), .lit (.slice none 0 0)] = [.lit (.slice none 0 0), .lit (.slice none 0 0), .lit (.slice none 0 0)] from rfl] at s1
  simp (config := { maxSteps := 5000000 }) only [walk, WAct, natOf_int, natOf_lit, List.nil_append, List.cons_append, List.append_nil, if_true, if_false, reduceIte, Nat.reduceEqDiff, Nat.zero_add, Nat.reduceAdd, WC_regD, WDs_nil, WDs_loud, WDs_pure, WDs_made, WDs_read, kReadW_t, kReadW_f, kRead_some, CkP_nil, CkP_cons, CkRecP_nil, CkRecP_cons, List.length_cons, List.length_nil, exH, Nat.reduceLeDiff, and_true, true_and, and_false, false_and, true_implies, false_implies, Bool.not_false, hfv, hce, s1]
  have hlt := l4.fresh.lt hc4
  have g5 : (h4.set h1.next (some (.cells [.lit (.slice none 0 0), .lit (.slice none 0 0), .lit (.slice none 0 0)]))).get h1.next = some (.cells [.lit (.slice none 0 0), .lit (.slice none 0 0), .lit (.slice none 0 0)]) := by rw [H.get_set, if_pos rfl]
  have b5 := H.at_ptr (off := 0) (n := 3) g5 (Nat.le_refl _)
  refine ⟨rfl, ?_⟩
  refine kDone_cells (l := [.lit (.slice none 0 0), .lit (.slice none 0 0), .lit (.slice none 0 0)]) ?_ ?_
  · simp (config := { maxSteps := 5000000 }) only [walk, WAct, natOf_int, natOf_lit, List.nil_append, List.cons_append, List.append_nil, if_true, if_false, reduceIte, Nat.reduceEqDiff, Nat.zero_add, Nat.reduceAdd]; exact b5
  · simp (config := { maxSteps := 5000000 }) only [walk, WAct, natOf_int, natOf_lit, List.nil_append, List.cons_append, List.append_nil, if_true, if_false, reduceIte, Nat.reduceEqDiff, Nat.zero_add, Nat.reduceAdd]
    have l14 := (l2.trans l3).trans l4
    refine hq _ ⟨?_, fun b hb _ => ?_, ?_⟩
    · have := l1.le; have := l14.le; rw [H.next_set]; omega
    · rw [H.get_set, if_neg (by omega), l14.same b (Nat.lt_of_lt_of_le hb l1.le) (by simp), l1.same b hb (by simp)]
    · exact (Upd.set (S := fun _ => True) l4.fresh _ trivial hlt).fresh

theorem Open_bad {h : H} {Q : Ret → H → Prop} {s : List UInt8} (hf : HF h) (h3 : 3 ≤ s.length) (hl : s.length ≤ 80000) (hbad : ¬ goodB s) (hq : ∀ h', Le h h' → Q (.ok (.tup [.agg [.lit (.int .i64 0), .lit (.slice none 0 0)], int 4])) h') :
    WF sp2 fs 20 [str s] h Q := by
  refine WF_enter (f := f20) rfl rfl rfl ?_
  have hsl := fun h => str_len s h
  have e1 : decide ((80000 : Int) < (s.length : Int)) = false := by simp; omega
  have hbx : boxL (V.cells (str s)) h = some (.ptr h.next 0, h.new (.cells [str s])) := rfl
  have l1 : Le h (h.new (.cells [str s])) := Upd.new hf _
  have hg1 := H.get_new_self h (.cells [str s])
  generalize hh1 : h.new (.cells [str s]) = h1 at hbx l1 hg1
  have hn1 : h1.next = h.next + 1 := by rw [← hh1]; rfl
  have l2 : Le h1 (h1.new (.cells [.lit (.int .i64 0), .lit (.slice none 0 0)])) := Upd.new l1.fresh _
  have hg2 := H.get_new_self h1 (.cells [.lit (.int .i64 0), .lit (.slice none 0 0)])
  have hb2 := l2.get l1.fresh hg1 (by simp)
  have l3 : Le (h1.new (.cells [.lit (.int .i64 0), .lit (.slice none 0 0)])) ((h1.new (.cells [.lit (.int .i64 0), .lit (.slice none 0 0)])).new (.cells [.lit (.int .i64 0), .lit (.slice none 0 0)])) := Upd.new l2.fresh _
  have hb3 := l3.get l2.fresh hb2 (by simp)
  have hc3 := l3.get l2.fresh hg2 (by simp)
  have b2 := H.at1_ptr (off := 0) hb2
  simp only [List.getElem?_cons_zero] at b2
  simp (config := { maxSteps := 5000000 }) only [f20, walk, WAct, natOf_int, natOf_lit, List.nil_append, List.cons_append, List.append_nil, if_true, if_false, reduceIte, Nat.reduceEqDiff, Nat.zero_add, Nat.reduceAdd, WC_regD, WDs_nil, WDs_loud, WDs_pure, WDs_made, WDs_read, kReadW_t, kReadW_f, kRead_some, CkP_nil, CkP_cons, CkRecP_nil, CkRecP_cons, List.length_cons, List.length_nil, exH, Nat.reduceLeDiff, and_true, true_and, and_false, false_and, true_implies, false_implies, hbx, b2, hsl, e1, stepO_func]
  refine attempt_wf l3.fresh (fun h4 l4 => closO_bad l4.fresh (l4.get l3.fresh hb3 (by simp)) h3 hl hbad) fun h4 l4 => ?_
  have hc4 := l4.get l3.fresh hc3 (by simp)
  have hfv : ∀ tm : TM, fillV [] tm [V.lit (Value.int .i64 0), .lit (.slice none 0 0)] = some [.lit (.int .i64 0), .lit (.slice none 0 0)] := fun _ => rfl
  have hce : V.cells (.agg [V.lit (Value.int .i64 0), .lit (.slice none 0 0)]) = [.lit (.int .i64 0), .lit (.slice none 0 0)] := rfl
  have s1 := store_ptr (off := 0) (n := 2) (xs := [.lit (.int .i64 0), .lit (.slice none 0 0)]) hc4 rfl (Nat.le_refl _) rfl (keepB_of ⟨.lit (.slice none 0 0), by simp, rfl⟩)
  rw [show wr [V.lit (Value.int .i64 0), .lit (.slice none 0 0)] 0 [.lit (.int .i64 0), .lit (.slice none 0 0)] = [.lit (.int .i64 0), .lit (.slice none 0 0)] from rfl] at s1
  simp (config := { maxSteps := 5000000 }) only [walk, WAct, natOf_int, natOf_lit, List.nil_append, List.cons_append, List.append_nil, if_true, if_false, reduceIte, Nat.reduceEqDiff, Nat.zero_add, Nat.reduceAdd, WC_regD, WDs_nil, WDs_loud, WDs_pure, WDs_made, WDs_read, kReadW_t, kReadW_f, kRead_some, CkP_nil, CkP_cons, CkRecP_nil, CkRecP_cons, List.length_cons, List.length_nil, exH, Nat.reduceLeDiff, and_true, true_and, and_false, false_and, true_implies, false_implies, Bool.not_false, hfv, hce, s1]
  have hlt := l4.fresh.lt hc4
  have g5 : (h4.set h1.next (some (.cells [.lit (.int .i64 0), .lit (.slice none 0 0)]))).get h1.next = some (.cells [.lit (.int .i64 0), .lit (.slice none 0 0)]) := by rw [H.get_set, if_pos rfl]
  have b5 := H.at_ptr (off := 0) (n := 2) g5 (Nat.le_refl _)
  refine ⟨rfl, ?_⟩
  refine kDone_cells (l := [.lit (.int .i64 0), .lit (.slice none 0 0)]) ?_ ?_
  · simp (config := { maxSteps := 5000000 }) only [walk, WAct, natOf_int, natOf_lit, List.nil_append, List.cons_append, List.append_nil, if_true, if_false, reduceIte, Nat.reduceEqDiff, Nat.zero_add, Nat.reduceAdd]; exact b5
  · simp (config := { maxSteps := 5000000 }) only [walk, WAct, natOf_int, natOf_lit, List.nil_append, List.cons_append, List.append_nil, if_true, if_false, reduceIte, Nat.reduceEqDiff, Nat.zero_add, Nat.reduceAdd]
    have l14 := (l2.trans l3).trans l4
    refine hq _ ⟨?_, fun b hb _ => ?_, ?_⟩
    · have := l1.le; have := l14.le; rw [H.next_set]; omega
    · rw [H.get_set, if_neg (by omega), l14.same b (Nat.lt_of_lt_of_le hb l1.le) (by simp), l1.same b hb (by simp)]
    · exact (Upd.set (S := fun _ => True) l4.fresh _ trivial hlt).fresh

end A
end Go.Proofs.YtcohlhplpogopaaGreat

namespace Go.Proofs.YtcohlhplpogopaaGreat
namespace A

theorem H.at_field {h : H} {p : V} {n o : Nat} {l : List V} (ha : h.at p n = some l) (ho : o < n) : ∃ p', fieldAV o p h = some (p', h) ∧ h.at p' (n - o) = some (l.drop o) ∧ h.at1 p' = l[o]? := by
  cases p with
  | ptr b off =>
    have ha' : cutO (h.cells b) off n = some l := ha
    cases hc : h.cells b with
    | none => rw [hc] at ha'; cases ha'
    | some c =>
      rw [hc] at ha'
      obtain ⟨e1, e2⟩ := cut_some (show cut c off n = some l from ha')
      have hg := cellsOf_some (show cellsOf (h.get b) = some c from hc)
      have hl : off + n ≤ c.length := by
        rw [e1, List.length_take, List.length_drop] at e2; omega
      refine ⟨.ptr b (off + o), fieldAV_ptr hg, ?_, ?_⟩
      · rw [H.at_ptr hg (by omega), e1, List.drop_take, List.drop_drop]
      · rw [H.at1_ptr hg, e1, List.getElem?_take, if_pos ho, List.getElem?_drop]
  | rp c =>
    obtain ⟨e1, e2⟩ := cut_some (show cut c 0 n = some l from ha)
    rw [List.drop_zero] at e1
    have hl : n ≤ c.length := by
      rw [e1, List.length_take] at e2; omega
    refine ⟨.rp (c.drop o), ?_, ?_, ?_⟩
    · show some (V.rp (dropL c o), h) = _
      rw [dropL_eq]
    · show cut (c.drop o) 0 (n - o) = _
      rw [cut_eq _ _ _ (by rw [List.length_drop]; omega), List.drop_zero, e1, List.drop_take]
    · show nthO (c.drop o) 0 = _
      rw [nthO_eq, List.getElem?_drop, Nat.add_zero, e1, List.getElem?_take, if_pos ho]
  | _ => cases ha

/- loops with a head, a test, and a step -/
def forLoop (id0 id1 tc : Nat) (head : List CO) (body : C) (step : List CO) : C := .block id0 (.loop (.seq (.seq (.reg head) (.cond (.t tc) .skip (.exit id0))) (.seq (.block id1 body) (.reg step))))
theorem WC_for {sp : Sp} {fs : Fs} {id0 id1 tc : Nat} {head step : List CO} {body : C} {N : Nat} {J : Nat → St → Prop} {Q : E → St → Prop} {st : St} (h0 : J 0 st)
    (hhead : ∀ k st, k ≤ N → J k st → WOps sp fs head st fun e st' => e = .nor ∧ J k st' ∧ st'.tm.nth tc = bool (decide (k < N)))
    (hexit : ∀ st, J N st → Q .nor st)
    (hbody : ∀ k st, k < N → J k st → WC sp fs body st fun e st' => match e with
      | .nor => WOps sp fs step st' fun e'' st'' => e'' = .nor ∧ J (k + 1) st''
      | .ret => Q .ret st'
      | _ => False) : WC sp fs (forLoop id0 id1 tc head body step) st Q := by
  show WR sp fs (.loop _) st (kBlock id0 Q)
  refine WR_loop (fun m st => ∃ k, m = N - k ∧ k ≤ N ∧ J k st) ?_ (N - 0) st ⟨0, rfl, Nat.zero_le _, h0⟩
  rintro m st ⟨k, rfl, hk, hJ⟩
  rw [WC_seq, WC_seq, WC_reg]
  refine WOps_mono ?_ (hhead k st hk hJ)
  rintro e st' ⟨rfl, hJ', htc⟩
  rw [kSeq_nor, WC_cond, X.ev_t, htc]
  by_cases hlt : k < N
  · rw [show decide (k < N) = true from by simpa using hlt, kCond_t, WC_skip, kSeq_nor, WC_seq, WC_block]
    refine WC_mono (hbody k st' hlt hJ') ?_
    intro e st'' he
    cases e with
    | nor =>
      rw [kBlock_nor, kSeq_nor, WC_reg]
      refine WOps_mono ?_ he
      rintro e' st3 ⟨rfl, hJ3⟩
      exact ⟨N - (k + 1), by omega, k + 1, rfl, hlt, hJ3⟩
    | ret => exact he
    | ex i => exact he.elim
    | pan v => exact he.elim
  · rw [show decide (k < N) = false from by simpa using hlt, kCond_f, WC_exit, kSeq_ex, kSeq_ex, kBlock_ex, if_pos rfl]
    obtain rfl : k = N := by omega
    exact hexit _ hJ'

theorem many_wf {h : H} {Q : Ret → H → Prop} {v : V} {n : Nat} (hl : cond (isNK .slc v) (lenV v h) none = some (int n, h)) (hq : Q (.ok (bool (decide (1000 < n)))) h) : WF sp2 fs 16 [v] h Q := by
  refine WF_enter (f := f16) rfl rfl rfl ?_
  simp only [f16, walk, WAct, natOf_int, natOf_lit, List.nil_append, List.cons_append, List.append_nil, if_true, if_false, reduceIte, Nat.reduceEqDiff, Nat.zero_add, Nat.reduceAdd, hl]
  have : decide ((1000 : Int) < (n : Int)) = decide (1000 < n) := by rw [decide_eq_decide]; omega
  rw [this]
  exact hq

def lgHead1 : List CO := [⟨some 22, .mov (.t 3), none⟩, ⟨some 23, .fieldA 1 (.t 1), none⟩, ⟨some 24, .load none (.t 23), none⟩, ⟨some 25, .len .slc (.t 24), none⟩, ⟨some 26, .ar .lss (.t 22) (.t 25), none⟩]
def lgStep1 : List CO := [⟨some 27, .mov (.t 3), none⟩, ⟨some 28, .ar .add (.t 27) (.c (.lit (.int .i64 1))), none⟩, ⟨some 3, .mov (.t 28), none⟩]
def lgHead2 : List CO := [⟨some 37, .mov (.t 4), none⟩, ⟨some 38, .fieldA 1 (.t 1), none⟩, ⟨some 39, .load none (.t 38), none⟩, ⟨some 40, .mov (.t 3), none⟩, ⟨some 41, .idxA 2 (.t 39) (.t 40), none⟩, ⟨some 42, .fieldA 1 (.t 41), none⟩, ⟨some 43, .load none (.t 42), none⟩, ⟨some 44, .len .slc (.t 43), none⟩, ⟨some 45, .ar .lss (.t 37) (.t 44), none⟩]
def lgStep2 : List CO := [⟨some 46, .mov (.t 4), none⟩, ⟨some 47, .ar .add (.t 46) (.c (.lit (.int .i64 1))), none⟩, ⟨some 4, .mov (.t 47), none⟩]
def lgBody2 : C := .seq (.reg [⟨some 48, .fieldA 1 (.t 1), none⟩, ⟨some 49, .load none (.t 48), none⟩, ⟨some 50, .mov (.t 3), none⟩, ⟨some 51, .idxA 2 (.t 49) (.t 50), none⟩, ⟨some 52, .fieldA 1 (.t 51), none⟩, ⟨some 53, .load none (.t 52), none⟩, ⟨some 54, .mov (.t 4), none⟩, ⟨some 55, .idxA 1 (.t 53) (.t 54), none⟩, ⟨some 56, .fieldA 0 (.t 55), none⟩, ⟨some 57, .load none (.t 56), none⟩, ⟨some 58, .call (.c (.fn (.func 16) [] [])) [.t 57], none⟩])
  (.cond (.t 58) (.seq (.reg [⟨some 2, .mov (.c (.lit (.bool true))), none⟩]) .ret) .skip)
def lgBody1 : C := .seq (.seq (.reg [⟨some 29, .fieldA 1 (.t 1), none⟩, ⟨some 30, .load none (.t 29), none⟩, ⟨some 31, .mov (.t 3), none⟩, ⟨some 32, .idxA 2 (.t 30) (.t 31), none⟩, ⟨some 33, .fieldA 1 (.t 32), none⟩, ⟨some 34, .load none (.t 33), none⟩, ⟨some 35, .len .slc (.t 34), none⟩, ⟨some 36, .ar .gtr (.t 35) (.c (.lit (.int .i64 20))), none⟩])
    (.cond (.t 36) (.seq (.reg [⟨some 2, .mov (.c (.lit (.bool true))), none⟩]) .ret) .skip))
  (.seq (.reg [⟨some 4, .mov (.c (.lit (.int .i64 0))), none⟩]) (forLoop 2 3 45 lgHead2 lgBody2 lgStep2))
def lgHead3 : List CO := [⟨some 59, .mov (.t 5), none⟩, ⟨some 60, .fieldA 2 (.t 1), none⟩, ⟨some 61, .load none (.t 60), none⟩, ⟨some 62, .len .slc (.t 61), none⟩, ⟨some 63, .ar .lss (.t 59) (.t 62), none⟩]
def lgStep3 : List CO := [⟨some 64, .mov (.t 5), none⟩, ⟨some 65, .ar .add (.t 64) (.c (.lit (.int .i64 1))), none⟩, ⟨some 5, .mov (.t 65), none⟩]
def lgBody3 : C := .seq (.reg [⟨some 66, .fieldA 2 (.t 1), none⟩, ⟨some 67, .load none (.t 66), none⟩, ⟨some 68, .mov (.t 5), none⟩, ⟨some 69, .idxA 4 (.t 67) (.t 68), none⟩, ⟨some 70, .fieldA 1 (.t 69), none⟩, ⟨some 71, .fieldA 2 (.t 70), none⟩, ⟨some 72, .load none (.t 71), none⟩, ⟨some 73, .call (.c (.fn (.func 16) [] [])) [.t 72], none⟩])
  (.cond (.t 73) (.seq (.reg [⟨some 2, .mov (.c (.lit (.bool true))), none⟩]) .ret) .skip)
def lgRest : C := .seq (.seq (.reg [⟨some 3, .mov (.c (.lit (.int .i64 0))), none⟩]) (forLoop 0 1 26 lgHead1 lgBody1 lgStep1))
  (.seq (.seq (.reg [⟨some 5, .mov (.c (.lit (.int .i64 0))), none⟩]) (forLoop 4 5 63 lgHead3 lgBody3 lgStep3)) (.seq (.reg [⟨some 2, .mov (.c (.lit (.bool false))), none⟩]) .ret))
theorem f15_eq : f15 = ⟨74, [.tmp 2], none, .seq (.reg [⟨some 1, .box (.t 0), none⟩, ⟨some 2, .mov (.c (.lit (.bool false))), none⟩])
 (.seq (.seq (.reg [⟨some 6, .fieldA 0 (.t 1), none⟩, ⟨some 7, .load none (.t 6), none⟩, ⟨some 8, .len .slc (.t 7), none⟩, ⟨some 9, .ar .gtr (.t 8) (.c (.lit (.int .i64 70))), none⟩, ⟨some 10, .mov (.t 9), none⟩, ⟨some 11, .fieldA 1 (.t 1), some (10, false)⟩, ⟨some 12, .load none (.t 11), some (10, false)⟩, ⟨some 13, .len .slc (.t 12), some (10, false)⟩, ⟨some 14, .ar .gtr (.t 13) (.c (.lit (.int .i64 70))), some (10, false)⟩, ⟨some 15, .pick (.t 10) (.c (.lit (.bool true))) (.t 14), none⟩, ⟨some 16, .mov (.t 15), none⟩, ⟨some 17, .fieldA 2 (.t 1), some (16, false)⟩, ⟨some 18, .load none (.t 17), some (16, false)⟩, ⟨some 19, .len .slc (.t 18), some (16, false)⟩, ⟨some 20, .ar .gtr (.t 19) (.c (.lit (.int .i64 70))), some (16, false)⟩, ⟨some 21, .pick (.t 16) (.c (.lit (.bool true))) (.t 20), none⟩])
  (.cond (.t 21) (.seq (.reg [⟨some 2, .mov (.c (.lit (.bool true))), none⟩]) .ret) .skip)) lgRest)⟩ := rfl

theorem DMsgs.at_len {N : Nat} {h : H} {v : V} {q : List (List Val)} (hd : DMsgs N h v q) {i : Nat} {l : List Val} (hl : q[i]? = some l) : ∃ p p' sv, idxAV 1 v (some i) h = some (p, h) ∧ fieldAV 0 p h = some (p', h) ∧ h.at1 p' = some sv ∧ cond (isNK .slc sv) (lenV sv h) none = some (int l.length, h) := by
  obtain ⟨p, sv, g1, g2, g3⟩ := hd.at hl
  obtain ⟨p', f1, _, f3⟩ := H.at_field (o := 0) g2 (by decide)
  exact ⟨p, p', sv, g1, f1, f3, g3.len⟩
theorem DQueues.at_field {N : Nat} {h : H} {v : V} {qs : List PQ} (hd : DQueues N h v qs) {i : Nat} {q : PQ} (hl : qs[i]? = some q) : ∃ p p' sv, idxAV 2 v (some i) h = some (p, h) ∧ fieldAV 1 p h = some (p', h) ∧ h.at1 p' = some sv ∧ DMsgs N h sv q.queue := by
  obtain ⟨p, sv, g1, g2, g3⟩ := hd.at hl
  obtain ⟨p', f1, _, f3⟩ := H.at_field (o := 1) g2 (by decide)
  exact ⟨p, p', sv, g1, f1, f3, g3⟩
theorem DWaits.at_field {N : Nat} {h : H} {v : V} {ws : List PW} (hd : DWaits N h v ws) {i : Nat} {w : PW} (hl : ws[i]? = some w) : ∃ p p' p'' sv, idxAV 4 v (some i) h = some (p, h) ∧ fieldAV 1 p h = some (p', h) ∧ fieldAV 2 p' h = some (p'', h) ∧ h.at1 p'' = some sv ∧ cond (isNK .slc sv) (lenV sv h) none = some (int w.env.length, h) := by
  obtain ⟨p, sv, g1, g2, g3⟩ := hd.at hl
  obtain ⟨p', f1, f2, _⟩ := H.at_field (o := 1) g2 (by decide)
  obtain ⟨p'', f4, _, f6⟩ := H.at_field (o := 2) f2 (by decide)
  exact ⟨p, p', p'', sv, g1, f1, f4, f6, g3.len⟩
theorem lt_nat (a b : Nat) : decide ((a : Int) < (b : Int)) = decide (a < b) := by rw [decide_eq_decide]; omega
theorem wrap_succ {k : Nat} (h : k ≤ 1000000) : IntKind.i64.wrap ((k : Int) + 1) = ((k + 1 : Nat) : Int) := by rw [wrap64_in (by omega) (by omega)]; rfl

theorem large_wf {N : Nat} {h : H} {Q : Ret → H → Prop} {v : V} {x : PX} (hf : HF h) (hN : N ≤ h.next) (hd : DParcel N h v x) (hq : ∀ b h', Le h h' → (b = false → SmallX x) → Q (.ok (bool b)) h') : WF sp2 fs 15 [v] h Q := by
  obtain ⟨va, vb, vc, rfl, da, db, dc⟩ := hd
  have hm : most = 1000000 := rfl
  refine WF_enter (f := f15) rfl rfl rfl ?_
  rw [f15_eq]
  obtain ⟨h1, hb, hle, hg, hn1, _⟩ := boxed (l := [va, vb, vc]) hf (by show cond va.atom (cond vb.atom (cond vc.atom true false) false) false = true; rw [da.atom, db.atom, dc.atom]; rfl)
  replace da := da.move (hle.lowLe hN)
  replace db := db.move (hle.lowLe hN)
  replace dc := dc.move (hle.lowLe hN)
  have x0 := fieldAV_ptr (off := 0) (o := 0) hg
  have x1 := fieldAV_ptr (off := 0) (o := 1) hg
  have x2 := fieldAV_ptr (off := 0) (o := 2) hg
  have y0 := H.at1_ptr (off := 0) hg
  have y1 := H.at1_ptr (off := 1) hg
  have y2 := H.at1_ptr (off := 2) hg
  simp only [List.getElem?_cons_zero, List.getElem?_cons_succ, Nat.zero_add] at x0 x1 x2 y0 y1 y2
  have la := da.len
  have lb := db.len
  have lc := dc.len
  have hT := hq true h1 hle (fun e => by cases e)
  simp only [walk, WAct, natOf_int, natOf_lit, List.nil_append, List.cons_append, List.append_nil, if_true, if_false, reduceIte, Nat.reduceEqDiff, Nat.zero_add, Nat.reduceAdd, hb, x0, y0, la]
  by_cases c1 : 70 < x.spots.length
  · have e1 : decide ((70 : Int) < (x.spots.length : Int)) = true := by simp; omega
    simp only [e1, walk, WAct, natOf_int, natOf_lit, List.nil_append, List.cons_append, List.append_nil, if_true, if_false, reduceIte, Nat.reduceEqDiff, Nat.zero_add, Nat.reduceAdd]
    exact hT
  have e1 : decide ((70 : Int) < (x.spots.length : Int)) = false := by simp; omega
  simp only [e1, walk, WAct, natOf_int, natOf_lit, List.nil_append, List.cons_append, List.append_nil, if_true, if_false, reduceIte, Nat.reduceEqDiff, Nat.zero_add, Nat.reduceAdd, x1, y1, lb]
  by_cases c2 : 70 < x.queues.length
  · have e2 : decide ((70 : Int) < (x.queues.length : Int)) = true := by simp; omega
    simp only [e2, walk, WAct, natOf_int, natOf_lit, List.nil_append, List.cons_append, List.append_nil, if_true, if_false, reduceIte, Nat.reduceEqDiff, Nat.zero_add, Nat.reduceAdd]
    exact hT
  have e2 : decide ((70 : Int) < (x.queues.length : Int)) = false := by simp; omega
  simp only [e2, walk, WAct, natOf_int, natOf_lit, List.nil_append, List.cons_append, List.append_nil, if_true, if_false, reduceIte, Nat.reduceEqDiff, Nat.zero_add, Nat.reduceAdd, x2, y2, lc]
  by_cases c3 : 70 < x.waits.length
  · have e3 : decide ((70 : Int) < (x.waits.length : Int)) = true := by simp; omega
    simp only [e3, walk, WAct, natOf_int, natOf_lit, List.nil_append, List.cons_append, List.append_nil, if_true, if_false, reduceIte, Nat.reduceEqDiff, Nat.zero_add, Nat.reduceAdd]
    exact hT
  have e3 : decide ((70 : Int) < (x.waits.length : Int)) = false := by simp; omega
  simp only [e3, lgRest, walk, WAct, natOf_int, natOf_lit, List.nil_append, List.cons_append, List.append_nil, if_true, if_false, reduceIte, Nat.reduceEqDiff, Nat.zero_add, Nat.reduceAdd]
  refine WC_for (N := x.queues.length) (J := fun k st => st.tm.nth 3 = int k ∧ st.tm.nth 1 = .ptr h.next 0 ∧ st.df = [] ∧ st.h = h1 ∧ ∀ j, j < k → ∀ q, x.queues[j]? = some q → q.queue.length ≤ 20 ∧ ∀ l, l ∈ q.queue → l.length ≤ 1000) ?_ ?_ ?_ ?_
  · simp only [walk, WAct, natOf_int, natOf_lit, List.nil_append, List.cons_append, List.append_nil, if_true, if_false, reduceIte, Nat.reduceEqDiff, Nat.zero_add, Nat.reduceAdd]
    exact ⟨rfl, trivial, trivial, trivial, fun j hj => absurd hj (Nat.not_lt_zero _)⟩
  · rintro k ⟨tm, df, hh⟩ hk ⟨h1, h2, h3, h4, h5⟩
    simp only at h1 h2 h3 h4
    subst h3 h4
    simp only [lgHead1, walk, WAct, natOf_int, natOf_lit, List.nil_append, List.cons_append, List.append_nil, if_true, if_false, reduceIte, Nat.reduceEqDiff, Nat.zero_add, Nat.reduceAdd, h1, h2, x1, y1, lb, lt_nat]
    exact ⟨trivial, ⟨trivial, trivial, trivial, trivial, h5⟩, trivial⟩
  · rintro ⟨tm, df, hh⟩ ⟨h1, h2, h3, h4, h5⟩
    simp only at h1 h2 h3 h4
    subst h3 h4
    simp only [walk, WAct, natOf_int, natOf_lit, List.nil_append, List.cons_append, List.append_nil, if_true, if_false, reduceIte, Nat.reduceEqDiff, Nat.zero_add, Nat.reduceAdd]
    refine WC_for (N := x.waits.length) (J := fun k st => st.tm.nth 5 = int k ∧ st.tm.nth 1 = .ptr h.next 0 ∧ st.df = [] ∧ st.h = hh ∧ ∀ j, j < k → ∀ w, x.waits[j]? = some w → w.env.length ≤ 1000) ?_ ?_ ?_ ?_
    · simp only [walk, WAct, natOf_int, natOf_lit, List.nil_append, List.cons_append, List.append_nil, if_true, if_false, reduceIte, Nat.reduceEqDiff, Nat.zero_add, Nat.reduceAdd, h2]
      exact ⟨rfl, trivial, trivial, trivial, fun j hj => absurd hj (Nat.not_lt_zero _)⟩
    · rintro k ⟨tm, df, hh⟩ hk ⟨h1, h2, h3, h4, h6⟩
      simp only at h1 h2 h3 h4
      subst h3 h4
      simp only [lgHead3, walk, WAct, natOf_int, natOf_lit, List.nil_append, List.cons_append, List.append_nil, if_true, if_false, reduceIte, Nat.reduceEqDiff, Nat.zero_add, Nat.reduceAdd, h1, h2, x2, y2, lc, lt_nat]
      exact ⟨trivial, ⟨trivial, trivial, trivial, trivial, h6⟩, trivial⟩
    · rintro ⟨tm, df, hh⟩ ⟨h1, h2, h3, h4, h6⟩
      simp only at h1 h2 h3 h4
      subst h3 h4
      simp only [walk, WAct, natOf_int, natOf_lit, List.nil_append, List.cons_append, List.append_nil, if_true, if_false, reduceIte, Nat.reduceEqDiff, Nat.zero_add, Nat.reduceAdd]
      refine hq false hh hle fun _ => ⟨by omega, by omega, by omega, fun q hq' => ?_, fun w hw => ?_⟩
      · obtain ⟨j, hj⟩ := List.getElem?_of_mem hq'
        obtain ⟨a1, a2⟩ := h5 j (List.getElem?_eq_some_iff.1 hj).1 q hj
        exact ⟨by omega, fun l hl => by have := a2 l hl; omega⟩
      · obtain ⟨j, hj⟩ := List.getElem?_of_mem hw
        have := h6 j (List.getElem?_eq_some_iff.1 hj).1 w hj
        omega
    · rintro k ⟨tm, df, hh⟩ hk ⟨h1, h2, h3, h4, h6⟩
      simp only at h1 h2 h3 h4
      subst h3 h4
      have hx := List.getElem?_eq_getElem hk
      generalize x.waits[k] = w at hx
      obtain ⟨p, p', p'', sv, g1, g2, g3, g4, g5⟩ := dc.at_field hx
      simp only [lgBody3, walk, WAct, natOf_int, natOf_lit, List.nil_append, List.cons_append, List.append_nil, if_true, if_false, reduceIte, Nat.reduceEqDiff, Nat.zero_add, Nat.reduceAdd, h1, h2, x2, y2, g1, g2, g3, g4]
      refine many_wf g5 ?_
      simp only [walk, WAct, natOf_int, natOf_lit, List.nil_append, List.cons_append, List.append_nil, if_true, if_false, reduceIte, Nat.reduceEqDiff, Nat.zero_add, Nat.reduceAdd]
      by_cases e : 1000 < w.env.length
      · have e' : decide (1000 < w.env.length) = true := by simpa using e
        simp only [e', walk, WAct, natOf_int, natOf_lit, List.nil_append, List.cons_append, List.append_nil, if_true, if_false, reduceIte, Nat.reduceEqDiff, Nat.zero_add, Nat.reduceAdd]
        exact hT
      · have e' : decide (1000 < w.env.length) = false := by simpa using e
        simp only [e', lgStep3, walk, WAct, natOf_int, natOf_lit, List.nil_append, List.cons_append, List.append_nil, if_true, if_false, reduceIte, Nat.reduceEqDiff, Nat.zero_add, Nat.reduceAdd, h1, h2, wrap_succ (show k ≤ 1000000 by omega)]
        refine ⟨trivial, trivial, trivial, trivial, trivial, fun j hj w' hw' => ?_⟩
        by_cases ej : j = k
        · subst ej; rw [hx] at hw'; cases hw'; omega
        · exact h6 j (by omega) w' hw'
  · rintro k ⟨tm, df, hh⟩ hk ⟨h1, h2, h3, h4, h5⟩
    simp only at h1 h2 h3 h4
    subst h3 h4
    have hx := List.getElem?_eq_getElem hk
    generalize x.queues[k] = q at hx
    obtain ⟨p, p', sv, g1, g2, g3, g4⟩ := db.at_field hx
    have g5 := g4.len
    simp only [lgBody1, walk, WAct, natOf_int, natOf_lit, List.nil_append, List.cons_append, List.append_nil, if_true, if_false, reduceIte, Nat.reduceEqDiff, Nat.zero_add, Nat.reduceAdd, h1, h2, x1, y1, g1, g2, g3, g5]
    by_cases e : 20 < q.queue.length
    · have e' : decide ((20 : Int) < (q.queue.length : Int)) = true := by simp; omega
      simp only [e', walk, WAct, natOf_int, natOf_lit, List.nil_append, List.cons_append, List.append_nil, if_true, if_false, reduceIte, Nat.reduceEqDiff, Nat.zero_add, Nat.reduceAdd]
      exact hT
    have e' : decide ((20 : Int) < (q.queue.length : Int)) = false := by simp; omega
    simp only [e', walk, WAct, natOf_int, natOf_lit, List.nil_append, List.cons_append, List.append_nil, if_true, if_false, reduceIte, Nat.reduceEqDiff, Nat.zero_add, Nat.reduceAdd]
    refine WC_for (N := q.queue.length) (J := fun i st => st.tm.nth 4 = int i ∧ st.tm.nth 3 = int k ∧ st.tm.nth 1 = .ptr h.next 0 ∧ st.df = [] ∧ st.h = hh ∧ ∀ j, j < i → ∀ l, q.queue[j]? = some l → l.length ≤ 1000) ?_ ?_ ?_ ?_
    · simp only [walk, WAct, natOf_int, natOf_lit, List.nil_append, List.cons_append, List.append_nil, if_true, if_false, reduceIte, Nat.reduceEqDiff, Nat.zero_add, Nat.reduceAdd, h1, h2]
      exact ⟨rfl, trivial, trivial, trivial, trivial, fun j hj => absurd hj (Nat.not_lt_zero _)⟩
    · rintro i ⟨tm, df, hh⟩ hi ⟨t1, t2, t3, t4, t5, t6⟩
      simp only at t1 t2 t3 t4 t5
      subst t4 t5
      simp only [lgHead2, walk, WAct, natOf_int, natOf_lit, List.nil_append, List.cons_append, List.append_nil, if_true, if_false, reduceIte, Nat.reduceEqDiff, Nat.zero_add, Nat.reduceAdd, t1, t2, t3, x1, y1, g1, g2, g3, g5, lt_nat]
      exact ⟨trivial, ⟨trivial, trivial, trivial, trivial, trivial, t6⟩, trivial⟩
    · rintro ⟨tm, df, hh⟩ ⟨t1, t2, t3, t4, t5, t6⟩
      simp only at t1 t2 t3 t4 t5
      subst t4 t5
      simp only [lgStep1, walk, WAct, natOf_int, natOf_lit, List.nil_append, List.cons_append, List.append_nil, if_true, if_false, reduceIte, Nat.reduceEqDiff, Nat.zero_add, Nat.reduceAdd, t2, t3, wrap_succ (show k ≤ 1000000 by omega)]
      refine ⟨trivial, trivial, trivial, trivial, trivial, fun j hj q' hq' => ?_⟩
      by_cases ej : j = k
      · subst ej; rw [hx] at hq'; cases hq'
        refine ⟨by omega, fun l hl => ?_⟩
        obtain ⟨j', hj'⟩ := List.getElem?_of_mem hl
        exact t6 j' (List.getElem?_eq_some_iff.1 hj').1 l hj'
      · exact h5 j (by omega) q' hq'
    · rintro i ⟨tm, df, hh⟩ hi ⟨t1, t2, t3, t4, t5, t6⟩
      simp only at t1 t2 t3 t4 t5
      subst t4 t5
      have hx' := List.getElem?_eq_getElem hi
      generalize q.queue[i] = l at hx'
      obtain ⟨p2, p2', sv2, a1, a2, a3, a4⟩ := g4.at_len hx'
      simp only [lgBody2, walk, WAct, natOf_int, natOf_lit, List.nil_append, List.cons_append, List.append_nil, if_true, if_false, reduceIte, Nat.reduceEqDiff, Nat.zero_add, Nat.reduceAdd, t1, t2, t3, x1, y1, g1, g2, g3, a1, a2, a3]
      refine many_wf a4 ?_
      simp only [walk, WAct, natOf_int, natOf_lit, List.nil_append, List.cons_append, List.append_nil, if_true, if_false, reduceIte, Nat.reduceEqDiff, Nat.zero_add, Nat.reduceAdd]
      by_cases e : 1000 < l.length
      · have e' : decide (1000 < l.length) = true := by simpa using e
        simp only [e', walk, WAct, natOf_int, natOf_lit, List.nil_append, List.cons_append, List.append_nil, if_true, if_false, reduceIte, Nat.reduceEqDiff, Nat.zero_add, Nat.reduceAdd]
        exact hT
      · have e' : decide (1000 < l.length) = false := by simpa using e
        simp only [e', lgStep2, walk, WAct, natOf_int, natOf_lit, List.nil_append, List.cons_append, List.append_nil, if_true, if_false, reduceIte, Nat.reduceEqDiff, Nat.zero_add, Nat.reduceAdd, t1, t2, t3, wrap_succ (show i ≤ 1000000 by omega)]
        refine ⟨trivial, trivial, trivial, trivial, trivial, trivial, fun j hj l' hl' => ?_⟩
        by_cases ej : j = i
        · subst ej; rw [hx'] at hl'; cases hl'; omega
        · exact t6 j (by omega) l' hl'

end A
end Go.Proofs.YtcohlhplpogopaaGreat

