/-
  package wire: maps, checks. (No statement of the seat is proved here.)
-/
import Derived.Test.YtcohlhplpogopaaGreatWa
set_option linter.unusedSimpArgs false
set_option linter.unusedVariables false
namespace Go.Proofs.YtcohlhplpogopaaGreat
namespace A

/- maps as lists of pairs -/
section
variable {α : Type} [DecidableEq α] {ks : KK} {kf : α → V}

def encM (kf : α → V) (l : List (α × V)) : List (V × V) := l.map fun p => (kf p.1, p.2)
def look2 (a : α) : List (α × V) → Option V
  | [] => none
  | p :: l => if p.1 = a then some p.2 else look2 a l

theorem findV_enc (hk : ∀ a b, eqKey ks (kf a) (kf b) = some (decide (a = b))) (a : α) : ∀ l : List (α × V), findV ks (kf a) (encM kf l) = some (look2 a l)
  | [] => rfl
  | p :: l => by
    show findV ks (kf a) ((kf p.1, p.2) :: encM kf l) = _
    rw [findV_cons, hk, findV_enc hk a l]
    by_cases e : p.1 = a
    · simp [found, look2, e]
    · simp [found, look2, e, Ne.symm e]
theorem setV_enc (hk : ∀ a b, eqKey ks (kf a) (kf b) = some (decide (a = b))) (a : α) (v : V) : ∀ l : List (α × V), look2 a l = none → setV ks (kf a) v (encM kf l) = some (encM kf (l ++ [(a, v)]))
  | [], _ => rfl
  | p :: l, h => by
    show setV ks (kf a) v ((kf p.1, p.2) :: encM kf l) = _
    unfold look2 at h
    by_cases e : p.1 = a
    · rw [if_pos e] at h; cases h
    · rw [if_neg e] at h
      rw [setV_cons, hk, setV_enc hk a v l h]
      simp [placed, Ne.symm e, encM]
theorem lookV_enc (hk : ∀ a b, eqKey ks (kf a) (kf b) = some (decide (a = b))) {h : H} {b : Nat} {l : List (α × V)} (hg : h.get b = some (.mp (encM kf l))) (zero : V) (ok : Bool) (a : α) :
    lookV ks zero ok (.map b) (kf a) h = lookR zero ok (some (look2 a l)) h := by
  show lookE ks zero ok (kf a) (mapOf (h.get b)) h = _
  rw [hg]
  show (match some (encM kf l), eqKey ks (kf a) (kf a) with | some es, some _ => lookR zero ok (findV ks (kf a) es) h | _, _ => none) = _
  rw [hk]
  show lookR zero ok (findV ks (kf a) (encM kf l)) h = _
  rw [findV_enc hk]
theorem updV_enc (hk : ∀ a b, eqKey ks (kf a) (kf b) = some (decide (a = b))) {h : H} {b : Nat} {l : List (α × V)} (hg : h.get b = some (.mp (encM kf l))) (a : α) (v : V) (hn : look2 a l = none) :
    updV ks (.map b) (kf a) v h = some (undefV, h.set b (some (.mp (encM kf (l ++ [(a, v)]))))) := by
  show updE ks b (kf a) v (mapOf (h.get b)) h = _
  rw [hg]
  show (match some (encM kf l), eqKey ks (kf a) (kf a) with | some es, some _ => updR b (setV ks (kf a) v es) h | _, _ => none) = _
  rw [hk]
  show updR b (setV ks (kf a) v (encM kf l)) h = _
  rw [setV_enc hk a v l hn]; rfl
end

theorem key_int (a b : Int) : eqKey (.one (.int .i64)) (int a) (int b) = some (decide (a = b)) := by
  show cond (and (beqK .i64 .i64) (beqK .i64 .i64)) (some (eqI a b)) none = _
  rw [eqI_eq]; rfl
theorem key_val (a b : Val) : eqKey (.many [.int .i64, .int .i64]) (.agg (encVal a)) (.agg (encVal b)) = some (decide (a = b)) := by
  show bothO (some (eqI a.1 b.1)) (bothO (some (eqI a.2 b.2)) (some true)) = _
  rw [eqI_eq, eqI_eq]
  show some (and _ (and _ true)) = _
  congr 1
  rw [Bool.and_true, Bool.eq_iff_iff]
  simp [Prod.ext_iff]

/- the rows of integers -/
theorem DInts.at {N : Nat} {h : H} {v : V} {l : List Int} (d : DInts N h v l) {k : Nat} {n : Int} (hk : l[k]? = some n) : ∃ p, idxAV 1 v (some k) h = some (p, h) ∧ h.at1 p = some (int n) := by
  obtain ⟨p, g1, _, g3⟩ := d.1.idx (k := k) (c := [int n]) (by simp [hk])
  exact ⟨p, g1, g3 rfl⟩
theorem DInts.len {N : Nat} {h : H} {v : V} {l : List Int} (d : DInts N h v l) : cond (isNK .slc v) (lenV v h) none = some (int l.length, h) := by
  have := d.1.sl.lenV
  simpa using this

theorem take_succ' {α : Type} {l : List α} {k : Nat} {n : α} (h : l[k]? = some n) : l.take (k + 1) = l.take k ++ [n] := by
  rw [List.take_add_one, h]; rfl

theorem look2_none {α : Type} [DecidableEq α] {v : V} {a : α} : ∀ {l : List α}, a ∉ l → look2 a (l.map fun x => (x, v)) = none
  | [], _ => rfl
  | x :: l, h => by
    simp only [List.map_cons, look2]
    rw [if_neg (by rintro rfl; exact h (List.mem_cons_self ..))]
    exact look2_none fun hh => h (List.mem_cons_of_mem _ hh)
theorem look2_some {α : Type} [DecidableEq α] {v : V} {a : α} : ∀ {l : List α}, a ∈ l → look2 a (l.map fun x => (x, v)) = some v
  | x :: l, h => by
    simp only [List.map_cons, look2]
    by_cases e : x = a
    · rw [if_pos e]
    · rw [if_neg e]
      rcases List.mem_cons.1 h with rfl | h
      · exact absurd rfl e
      · exact look2_some h

/-- whether numbers are all different. -/
def onceB (l : List Int) : Bool := decide l.Nodup

def onceBody : C :=
  .seq (.reg [⟨some 11, .idxA 1 (.t 7) (.t 9), none⟩, ⟨some 12, .load none (.t 11), none⟩, ⟨some 5, .mov (.t 12), none⟩])
    (.seq (.seq (.reg [⟨some 13, .mov (.t 3), none⟩, ⟨some 14, .mov (.t 5), none⟩, ⟨some 15, .look (.one (.int .i64)) (.lit (.bool false)) false (.t 13) (.t 14), none⟩])
      (.cond (.t 15) (.seq (.reg [⟨some 2, .mov (.c (.lit (.bool false))), none⟩]) .ret) .skip))
      (.reg [⟨some 16, .mov (.t 3), none⟩, ⟨some 17, .mov (.t 5), none⟩, ⟨none, .upd (.one (.int .i64)) (.t 16) (.t 17) (.c (.lit (.bool true))), none⟩]))
theorem f110_eq : f110 = ⟨19, [.tmp 2], none, .seq (.reg [⟨some 2, .mov (.c (.lit (.bool false))), none⟩])
    (.seq (.reg [⟨some 6, .makeM, none⟩, ⟨some 3, .mov (.t 6), none⟩])
      (.seq (.seq (.reg [⟨some 7, .mov (.t 0), none⟩, ⟨some 8, .len .slc (.t 7), none⟩, ⟨some 9, .mov (.c (.lit (.int .i64 0))), none⟩]) (rangeLoop 0 1 10 9 8 18 onceBody))
        (.seq (.reg [⟨some 2, .mov (.c (.lit (.bool true))), none⟩]) .ret)))⟩ := rfl

theorem once_wf {N : Nat} {h : H} {Q : Ret → H → Prop} {s : V} {l : List Int} (hf : HF h) (hN : N ≤ h.next) (hd : DInts N h s l) (hlen : l.length ≤ 140737488355328) (hq : ∀ h', Le h h' → Q (.ok (bool (onceB l))) h') : WF sp2 fs 110 [s] h Q := by
  refine WF_enter (f := f110) rfl rfl rfl ?_
  rw [f110_eq]
  have hnew := Upd.new (S := fun _ => False) hf (.mp [])
  have hln := (hd.move (hnew.lowLe hN)).len
  simp only [walk, WAct, natOf_int, natOf_lit, List.nil_append, List.cons_append, List.append_nil, if_true, if_false, reduceIte, Nat.reduceEqDiff, Nat.zero_add, Nat.reduceAdd, hln]
  refine WC_range (N := l.length) (J := fun k st => st.tm.nth 9 = int k ∧ st.tm.nth 8 = int l.length ∧ st.tm.nth 7 = s ∧ st.tm.nth 3 = .map h.next ∧ st.df = [] ∧ (l.take k).Nodup ∧ Le h st.h ∧ st.h.get h.next = some (.mp (encM int ((l.take k).map fun x => (x, bool true))))) hlen (by decide) ?_ ?_ ?_ (by decide) ?_ ?_
  · simp only [walk, WAct, natOf_int, natOf_lit, List.nil_append, List.cons_append, List.append_nil, if_true, if_false, reduceIte, Nat.reduceEqDiff, Nat.zero_add, Nat.reduceAdd]
    exact ⟨rfl, trivial, trivial, trivial, trivial, List.nodup_nil, hnew, H.get_new_self _ _⟩
  · rintro k st ⟨h1, h2, _⟩; exact ⟨h1, h2⟩
  · rintro k ⟨tm, df, hh⟩ v ⟨h1, h2, h3, h4, h5⟩
    simp only [walk, WAct, natOf_int, natOf_lit, List.nil_append, List.cons_append, List.append_nil, if_true, if_false, reduceIte, Nat.reduceEqDiff, Nat.zero_add, Nat.reduceAdd]
    exact ⟨h1, h2, h3, h4, h5⟩
  · rintro ⟨tm, df, hh⟩ ⟨h1, h2, h3, h4, h5, h6, h7, h8⟩
    simp only at h5 h6 h7
    subst h5
    simp only [walk, WAct, natOf_int, natOf_lit, List.nil_append, List.cons_append, List.append_nil, if_true, if_false, reduceIte, Nat.reduceEqDiff, Nat.zero_add, Nat.reduceAdd]
    have := hq hh h7
    unfold onceB at this
    rw [List.take_of_length_le (Nat.le_refl _)] at h6
    rwa [show decide l.Nodup = true from by simpa using h6] at this
  · rintro k ⟨tm, df, hh⟩ hk ⟨h1, h2, h3, h4, h5, h6, h7, h8⟩
    simp only at h1 h2 h3 h4 h5 h6 h7 h8
    subst h5
    have hx := List.getElem?_eq_getElem hk
    generalize l[k] = n at hx
    obtain ⟨p, g1, g2⟩ := (hd.move (h7.lowLe hN)).at hx
    have hlk := lookV_enc key_int h8 (.lit (.bool false)) false n
    simp only [onceBody, walk, WAct, natOf_int, natOf_lit, List.nil_append, List.cons_append, List.append_nil, if_true, if_false, reduceIte, Nat.reduceEqDiff, Nat.zero_add, Nat.reduceAdd, h1, h2, h3, h4, g1, g2, hlk]
    by_cases hm : n ∈ l.take k
    · rw [look2_some hm]
      simp only [lookR, cond_false, walk, WAct, natOf_int, natOf_lit, List.nil_append, List.cons_append, List.append_nil, if_true, if_false, reduceIte, Nat.reduceEqDiff, Nat.zero_add, Nat.reduceAdd]
      have := hq hh h7
      unfold onceB at this
      rwa [show decide l.Nodup = false from ?_] at this
      have hnd : ¬ l.Nodup := by
        intro hnd
        have h9 := hnd.sublist (List.take_sublist (k + 1) l)
        rw [take_succ' hx, List.nodup_append] at h9
        exact h9.2.2 n hm n (List.mem_singleton_self n) rfl
      simpa using hnd
    · have hn0 := look2_none (v := bool true) hm
      have hup := updV_enc key_int h8 n (bool true) hn0
      rw [hn0]
      simp only [lookR, cond_false, walk, WAct, natOf_int, natOf_lit, List.nil_append, List.cons_append, List.append_nil, if_true, if_false, reduceIte, Nat.reduceEqDiff, Nat.zero_add, Nat.reduceAdd, h1, h2, h3, h4, hup]
      refine ⟨trivial, trivial, trivial, trivial, trivial, trivial, ?_, ?_, ?_⟩
      · rw [take_succ' hx, List.nodup_append]
        exact ⟨h6, by simp, fun a ha b hb => by simp at hb; subst hb; rintro rfl; exact hm ha⟩
      · have hlt : h.next < hh.next := h7.fresh.lt h8
        exact ⟨h7.le, fun b hb hS => by rw [H.get_set, if_neg (by omega)]; exact h7.same b hb hS, (Upd.set (S := fun _ => True) h7.fresh _ trivial hlt).fresh⟩
      · rw [H.get_set, if_pos rfl, take_succ' hx, List.map_append]; rfl

/- slices that the code itself has appended to -/
def OwnB (v : V) (c : Nat) : Prop :=
  match v with
  | .slc b _ _ _ _ => c = b
  | _ => False
/-- nothing yet, or elements of one size that were appended, or a row that is full. -/
def Own (h : H) (es : Nat) (v : V) (L : List V) (n : Nat) : Prop :=
  (v = .lit (.slice none 0 0) ∧ L = [] ∧ n = 0) ∨ (∃ b cap, v = .slc b 0 n es cap ∧ (cap = none ∨ cap = some n) ∧ h.get b = some (.cells L) ∧ L.length = n * es ∧ 0 < n ∧ 0 < L.length)

theorem Own.keep {h h' : H} {es n : Nat} {v : V} {L : List V} (o : Own h es v L n) (hk : ∀ c, OwnB v c → h'.get c = h.get c) : Own h' es v L n := by
  rcases o with h1 | ⟨b, cap, rfl, hc, h2, h3⟩
  · exact .inl h1
  · exact .inr ⟨b, cap, rfl, hc, by rw [hk b rfl]; exact h2, h3⟩

theorem append_own {h : H} {es bytes n m : Nat} {v y : V} {L ys : List V} (hf : HF h) (ho : Own h es v L n) (hy : h.row es y = some (ys, m)) (hm : 0 < m) (hyl : ys.length = m * es) (hes : 0 < es) (ha : allAtoms ys = true) (hmost : (n + m) * bytes ≤ 17592186044416) (hk : L ≠ [] → keepB L ys = true) :
    ∃ h', appendV es bytes v y h = some (.slc h.next 0 (n + m) es none, h') ∧ Own h' es (.slc h.next 0 (n + m) es none) (L ++ ys) (n + m) ∧ h'.next = h.next + 1 ∧ Upd (OwnB v) h h' := by
  have hyp : 0 < ys.length := by rw [hyl]; exact Nat.mul_pos hm hes
  have e0 : ∀ r, (match h.row es y with | some (ys, n) => cond (allAtoms ys) (appTo es bytes v h ys n) none | none => none) = r → appendV es bytes v y h = r := fun r hr => hr
  have hbm : Nat.beq m 0 = false := Bool.eq_false_iff.2 fun e => by have := Nat.eq_of_beq_eq_true e; omega
  rcases ho with ⟨rfl, rfl, rfl⟩ | ⟨b, cap, rfl, rfl | rfl, hg, hl, hn, hlp⟩
  · refine ⟨h.new (.cells ys), ?_, .inr ⟨h.next, none, by rw [Nat.zero_add], .inl rfl, H.get_new_self _ _, by rw [List.nil_append, Nat.zero_add, hyl], by omega, by rw [List.nil_append]; exact hyp⟩, rfl, Upd.new hf _⟩
    refine e0 _ ?_
    rw [hy]
    show cond (allAtoms ys) (cond (Nat.beq m 0) _ (cond (appMost m bytes) (appFresh h m es ys) none)) none = _
    rw [ha, hbm, show appMost m bytes = true from Nat.ble_eq_true_of_le (by rw [Nat.zero_add] at hmost; exact hmost), Nat.zero_add]
    rfl
  · refine ⟨(h.set b none).new (.cells (L ++ ys)), ?_, .inr ⟨h.next, none, rfl, .inl rfl, by rw [H.get_new, H.next_set, if_pos rfl], by rw [List.length_append, hl, hyl, Nat.add_mul], by omega, by rw [List.length_append]; omega⟩, rfl, ?_⟩
    · refine e0 _ ?_
      rw [hy]
      show cond (allAtoms ys) (cond (and (Nat.beq es es) (appMost (n + m) bytes)) (appSlc h b 0 n es m ys none (h.cells b)) none) none = _
      rw [ha, Nat.beq_refl, show appMost (n + m) bytes = true from Nat.ble_eq_true_of_le hmost, H.cells_of hg]
      show cond (Nat.beq m 0) _ (appOld h b 0 n es m L ys none (cut L 0 (n * es))) = _
      rw [hbm, cut_eq L 0 (n * es) (by omega), List.drop_zero, List.take_of_length_le (by omega)]
      show cond (or (keepB L ys) _) (appKill h b (n + m) es (appL L ys)) none = _
      rw [hk (by rintro rfl; exact absurd hlp (Nat.lt_irrefl 0)), appL_eq]; rfl
    · have hlt := hf.lt hg
      have hnl : ∀ c, (h.set b none).get c = if c = b then none else h.get c := fun c => H.get_set _ _ _ _
      refine ⟨by rw [H.next_new, H.next_set]; omega, fun c h1 h2 => ?_, fun c hc => ?_⟩
      · rw [H.get_new, H.next_set, if_neg (by omega), hnl, if_neg (fun e => h2 (show c = b from e))]
      · have hc' : h.next + 1 ≤ c := hc
        rw [H.get_new, H.next_set, if_neg (by omega), hnl]
        split
        · rfl
        · exact hf c (by omega)
  · refine ⟨h.new (.cells (L ++ ys)), ?_, .inr ⟨h.next, none, rfl, .inl rfl, H.get_new_self _ _, by rw [List.length_append, hl, hyl, Nat.add_mul], by omega, by rw [List.length_append]; omega⟩, rfl, Upd.new hf _⟩
    refine e0 _ ?_
    rw [hy]
    show cond (allAtoms ys) (cond (and (Nat.beq es es) (appMost (n + m) bytes)) (appSlc h b 0 n es m ys (some n) (h.cells b)) none) none = _
    rw [ha, Nat.beq_refl, show appMost (n + m) bytes = true from Nat.ble_eq_true_of_le hmost, H.cells_of hg]
    show cond (Nat.beq m 0) _ (appOld h b 0 n es m L ys (some n) (cut L 0 (n * es))) = _
    rw [hbm, cut_eq L 0 (n * es) (by omega), List.drop_zero, List.take_of_length_le (by omega)]
    have hbl : Nat.ble (n + m) n = false := Bool.eq_false_iff.2 fun e => by have := Nat.le_of_ble_eq_true e; omega
    show cond (or (keepB L ys) (not (Nat.ble (n + m) n))) (cond (Nat.ble (n + m) n) _ (appFresh h (n + m) es (appL L ys))) none = _
    rw [hbl, appL_eq, Bool.not_false, Bool.or_true]; rfl

theorem Own.row {h : H} {es n : Nat} {v : V} {L : List V} (o : Own h es v L n) : h.row es v = some (L, n) := by
  rcases o with ⟨rfl, rfl, rfl⟩ | ⟨b, cap, rfl, _, hg, hl, _, _⟩
  · rfl
  · show cond (Nat.beq es es) (withLen n (cutO (h.cells b) 0 (n * es))) none = _
    rw [Nat.beq_refl, H.cells_of hg]
    show withLen n (cut L 0 (n * es)) = _
    rw [cut_eq L 0 (n * es) (by omega), List.drop_zero, List.take_of_length_le (by omega)]; rfl
theorem Own.nk {h : H} {es n : Nat} {v : V} {L : List V} (o : Own h es v L n) : isNK .slc v = true := by
  rcases o with ⟨rfl, _⟩ | ⟨b, cap, rfl, _⟩ <;> rfl
theorem Own.rows {h : H} {es : Nat} {v : V} {L : List (List V)} (o : Own h es v L.flatten L.length) (hs : ∀ c, c ∈ L → c.length = es) (ha : allAtoms L.flatten = true) : Rows h es v L := ⟨⟨o.row, o.nk⟩, hs, ha⟩

end A
end Go.Proofs.YtcohlhplpogopaaGreat

namespace Go.Proofs.YtcohlhplpogopaaGreat
namespace A

theorem keepB_of {L ys : List V} (h : ∃ v, v ∈ L ∧ byteLike v = false) : keepB L ys = true := by
  obtain ⟨v, h1, h2⟩ := h
  unfold keepB
  cases hb : allB L with
  | false => rfl
  | true => rw [allB_iff] at hb; have := hb v h1; rw [h2] at this; cases this
theorem keepB_bytes {L ys : List V} (h : allB ys = true) : keepB L ys = true := by
  unfold keepB; rw [h]; cases allB L <;> rfl

theorem lits_one {es : Nat} {c : List V} {h : H} (ha : allAtoms c = true) : litsL es 1 (some c) h = some (.slc h.next 0 1 es (some 1), h.new (.cells c)) := by
  show cond (allAtoms c) _ none = _
  rw [ha]; rfl

/-- one element more. -/
theorem append_one {h : H} {es bytes n : Nat} {v : V} {L c : List V} (hf : HF h) (ho : Own h es v L n) (hc : c.length = es) (hes : 0 < es) (ha : allAtoms c = true) (hmost : (n + 1) * bytes ≤ 17592186044416) (hk : L ≠ [] → keepB L c = true) :
    ∃ h', appendV es bytes v (.slc h.next 0 1 es (some 1)) (h.new (.cells c)) = some (.slc (h.next + 1) 0 (n + 1) es none, h') ∧ Own h' es (.slc (h.next + 1) 0 (n + 1) es none) (L ++ c) (n + 1) ∧ h'.next = h.next + 2 ∧ Upd (OwnB v) h h' := by
  have hn : Upd (OwnB v) h (h.new (.cells c)) := Upd.new hf _
  have ho1 : Own (h.new (.cells c)) es v L n := by
    refine ho.keep fun d hd => ?_
    rcases ho with ⟨rfl, _⟩ | ⟨b, cap, rfl, _, hg, _⟩
    · exact hd.elim
    · have : d = b := hd
      subst this
      rw [H.get_new_ne _ (Nat.ne_of_lt (hf.lt hg))]
  have hrow : (h.new (.cells c)).row es (.slc h.next 0 1 es (some 1)) = some (c, 1) := by
    show cond (Nat.beq es es) (withLen 1 (cutO ((h.new (.cells c)).cells h.next) 0 (1 * es))) none = _
    rw [Nat.beq_refl, H.cells_of (H.get_new_self _ _)]
    show withLen 1 (cut c 0 (1 * es)) = _
    rw [cut_eq c 0 (1 * es) (by omega), List.drop_zero, List.take_of_length_le (by omega)]; rfl
  obtain ⟨h', g1, g2, g3, g4⟩ := append_own (bytes := bytes) hn.fresh ho1 hrow (by omega) (by omega) hes ha hmost hk
  exact ⟨h', g1, g2, by rw [g3]; rfl, hn.trans g4⟩

theorem store_ptr {h : H} {b off n : Nat} {l xs : List V} (hg : h.get b = some (.cells l)) (hn : xs.length = n) (hl : off + n ≤ l.length) (ha : allAtoms xs = true) (hk : keepB l xs = true) :
    storeL n (.ptr b off) xs h = some (undefV, h.set b (some (.cells (wr l off xs)))) := by
  show cond (Nat.beq (lenL xs) n) (okH (putL h b off xs (h.cells b))) none = _
  rw [lenL_eq, hn, Nat.beq_refl, H.cells_of hg]
  show okH (cond (and (Nat.ble (off + lenL xs) (lenL l)) (and (allAtoms xs) (keepB l xs))) _ none) = _
  rw [lenL_eq, lenL_eq, hn, Nat.ble_eq_true_of_le hl, ha, hk]; rfl

theorem Le.toSet {h : H} {S : Nat → Prop} {b : Nat} {o : Obj} (x : Obj) (hf : HF h) (hg : h.get b = some o) (hS : S b) : Upd S h (h.set b (some x)) := Upd.set hf _ hS (hf.lt hg)

/-- the channel of a queue. -/
theorem chan_wf {c : Int} {v : V} {h : H} {Q : Ret → H → Prop} (hf : HF h) (hv : v.atom = true) (hq : ∀ h', Le h h' → Q (.ok (int c)) h') : WF sp2 fs 114 [.agg [int c, v]] h Q := by
  refine WF_enter (f := f114) rfl rfl rfl ?_
  have hat : allAtoms [int c, v] = true := by
    show cond true (cond v.atom true false) false = true
    rw [hv]; rfl
  obtain ⟨h1, hb, hle, hg, _, _⟩ := boxed (l := [int c, v]) hf hat
  have a1 := fieldAV_ptr (off := 0) (o := 0) hg
  have b1 := H.at1_ptr (off := 0) hg
  simp only [List.getElem?_cons_zero, Nat.zero_add] at a1 b1
  simp only [f114, walk, WAct, natOf_int, natOf_lit, List.nil_append, List.cons_append, List.append_nil, if_true, if_false, reduceIte, Nat.reduceEqDiff, Nat.zero_add, Nat.reduceAdd, hb, a1, b1]
  exact hq _ hle

def eachBody : C :=
  .seq (.reg [⟨some 12, .idxA 2 (.t 8) (.t 10), none⟩, ⟨some 13, .load (some 2) (.t 12), none⟩, ⟨some 7, .alloc [.lit (.int .i64 0), .lit (.slice none 0 0)], none⟩, ⟨none, .store 2 (.t 7) (.t 13), none⟩])
    (.reg [⟨some 14, .mov (.t 5), none⟩, ⟨some 15, .mov (.t 1), none⟩, ⟨some 16, .load (some 2) (.t 7), none⟩, ⟨some 17, .call (.t 15) [.t 16], none⟩, ⟨some 18, .lits 1 1 [.lit (.int .i64 0)] [(0, 1, .t 17)], none⟩, ⟨some 19, .app 1 8 (.t 14) (.t 18), none⟩, ⟨some 5, .mov (.t 19), none⟩])
theorem f113_eq : f113 = ⟨22, [.tmp 4], none, .seq (.reg [⟨some 4, .mov (.c (.lit (.slice none 0 0))), none⟩]) (.seq (.reg [⟨some 5, .mov (.c (.lit (.slice none 0 0))), none⟩])
    (.seq (.seq (.reg [⟨some 8, .mov (.t 0), none⟩, ⟨some 9, .len .slc (.t 8), none⟩, ⟨some 10, .mov (.c (.lit (.int .i64 0))), none⟩]) (rangeLoop 0 1 11 10 9 20 eachBody)) (.seq (.reg [⟨some 21, .mov (.t 5), none⟩, ⟨some 4, .mov (.t 21), none⟩]) .ret)))⟩ := rfl

theorem encQ_get : ∀ {vs : List V} {qs : List PQ} {k : Nat} {v : V} {q : PQ}, vs[k]? = some v → qs[k]? = some q → (encQ vs qs)[k]? = some [int q.chan, v]
  | v :: vs, q :: qs, 0, _, _, h1, h2 => by simp at h1 h2; subst h1; subst h2; rfl
  | v :: vs, q :: qs, k + 1, _, _, h1, h2 => by
    have := encQ_get (k := k) (by simpa using h1) (by simpa using h2)
    simpa [encQ] using this
  | [], _, _, _, _, h1, _ => by simp at h1
  | _ :: _, [], _, _, _, _, h2 => by simp at h2
theorem encQ_length : ∀ {vs : List V} {qs : List PQ}, vs.length = qs.length → (encQ vs qs).length = qs.length
  | [], [], _ => rfl
  | _ :: vs, _ :: qs, h => by simp [encQ, encQ_length (vs := vs) (qs := qs) (by simpa using h)]
theorem encW_get : ∀ {vs : List V} {ws : List PW} {k : Nat} {v : V} {w : PW}, vs[k]? = some v → ws[k]? = some w → (encW vs ws)[k]? = some [int w.nth, int w.at', int w.node, v]
  | v :: vs, q :: qs, 0, _, _, h1, h2 => by simp at h1 h2; subst h1; subst h2; rfl
  | v :: vs, q :: qs, k + 1, _, _, h1, h2 => by
    have := encW_get (k := k) (by simpa using h1) (by simpa using h2)
    simpa [encW] using this
  | [], _, _, _, _, h1, _ => by simp at h1
  | _ :: _, [], _, _, _, _, h2 => by simp at h2
theorem encW_length : ∀ {vs : List V} {ws : List PW}, vs.length = ws.length → (encW vs ws).length = ws.length
  | [], [], _ => rfl
  | _ :: vs, _ :: qs, h => by simp [encW, encW_length (vs := vs) (ws := qs) (by simpa using h)]

theorem ints_flatten (l : List Int) : ((l.map int).map fun x => [x]).flatten = l.map int := flatten_single _
theorem ints_atoms : ∀ l : List Int, allAtoms (l.map int) = true
  | [] => rfl
  | _ :: l => ints_atoms l

/-- the channels of queues, in memory of their own. -/
theorem each_wf {N : Nat} {h : H} {Q : Ret → H → Prop} {s : V} {qs : List PQ} (hf : HF h) (hN : N ≤ h.next) (hd : DQueues N h s qs) (hlen : qs.length ≤ 1000000) (hq : ∀ v h', Le h h' → DInts h'.next h' v (qs.map (·.chan)) → Q (.ok v) h') :
    WF sp2 fs 113 [s, .fn (.func 114) [] []] h Q := by
  refine WF_enter (f := f113) rfl rfl rfl ?_
  rw [f113_eq]
  obtain ⟨vs, hr, hsb, ha2⟩ := hd
  have hvl := ha2.length
  have hel := encQ_length hvl
  have hln := hr.sl.lenV
  rw [hel] at hln
  simp only [walk, WAct, natOf_int, natOf_lit, List.nil_append, List.cons_append, List.append_nil, if_true, if_false, reduceIte, Nat.reduceEqDiff, Nat.zero_add, Nat.reduceAdd, hln]
  refine WC_range (N := qs.length) (J := fun k st => st.tm.nth 10 = int k ∧ st.tm.nth 9 = int qs.length ∧ st.tm.nth 8 = s ∧ st.tm.nth 1 = .fn (.func 114) [] [] ∧ st.df = [] ∧ Le h st.h ∧ Own st.h 1 (st.tm.nth 5) (((qs.map (·.chan)).take k).map int) k ∧ (∀ c, OwnB (st.tm.nth 5) c → h.next ≤ c)) (by omega) (by decide) ?_ ?_ ?_ (by decide) ?_ ?_
  · simp only [walk, WAct, natOf_int, natOf_lit, List.nil_append, List.cons_append, List.append_nil, if_true, if_false, reduceIte, Nat.reduceEqDiff, Nat.zero_add, Nat.reduceAdd]
    exact ⟨rfl, trivial, trivial, trivial, trivial, Upd.refl hf, .inl ⟨rfl, rfl, rfl⟩, fun c hc => hc.elim⟩
  · rintro k st ⟨h1, h2, _⟩; exact ⟨h1, h2⟩
  · rintro k ⟨tm, df, hh⟩ v ⟨h1, h2, h3, h4, h5, h6⟩
    simp only [walk, WAct, natOf_int, natOf_lit, List.nil_append, List.cons_append, List.append_nil, if_true, if_false, reduceIte, Nat.reduceEqDiff, Nat.zero_add, Nat.reduceAdd]
    exact ⟨h1, h2, h3, h4, h5, h6⟩
  · rintro ⟨tm, df, hh⟩ ⟨h1, h2, h3, h4, h5, h6, h7, h8⟩
    simp only at h5 h6 h7 h8
    subst h5
    simp only [walk, WAct, natOf_int, natOf_lit, List.nil_append, List.cons_append, List.append_nil, if_true, if_false, reduceIte, Nat.reduceEqDiff, Nat.zero_add, Nat.reduceAdd]
    refine hq _ hh h6 ?_
    rw [List.take_of_length_le (by simp)] at h7
    have hlen2 : ((qs.map (·.chan)).map int).length = qs.length := by simp
    refine ⟨Own.rows (L := ((qs.map (·.chan)).map int).map fun x => [x]) ?_ (fun c hc => by obtain ⟨x, _, rfl⟩ := List.mem_map.1 hc; rfl) (by rw [ints_flatten]; exact ints_atoms _), ?_⟩
    · rw [ints_flatten, List.length_map, hlen2]; exact h7
    · rcases h7 with ⟨e, _⟩ | ⟨b, cap, e, _, hg, _⟩
      · rw [e]; trivial
      · rw [e]; exact h6.fresh.lt hg
  · rintro k ⟨tm, df, hh⟩ hk ⟨h1, h2, h3, h4, h5, h6, h7, h8⟩
    simp only at h1 h2 h3 h4 h5 h6 h7 h8
    subst h5
    have hx := List.getElem?_eq_getElem hk
    generalize qs[k] = q at hx
    obtain ⟨vq, hv1, hv2⟩ := ha2.get hx
    obtain ⟨vs2, hr2, _, _⟩ := hv2
    have hvat := atom_slc hr2.sl.nk
    obtain ⟨p, g1, g2, _⟩ := (hr.move hsb (h6.lowLe hN)).idx (encQ_get hv1 hx)
    have hat : allAtoms [int q.chan, vq] = true := by
      show cond true (cond vq.atom true false) false = true
      rw [hvat]; rfl
    -- the copy of the element
    have u1 : Le hh (hh.new (.cells [.lit (.int .i64 0), .lit (.slice none 0 0)])) := Upd.new h6.fresh _
    have s1 := store_ptr (off := 0) (n := 2) (xs := [int q.chan, vq]) (H.get_new_self hh (.cells [.lit (.int .i64 0), .lit (.slice none 0 0)])) rfl (Nat.le_refl _) hat rfl
    have u2 : Le hh ((hh.new (.cells [.lit (.int .i64 0), .lit (.slice none 0 0)])).set hh.next (some (.cells [int q.chan, vq]))) :=
      ⟨Nat.le_succ _, fun b hb _ => by rw [H.get_set, if_neg (by omega), H.get_new, if_neg (by omega)], (Le.toSet (S := fun _ => True) _ u1.fresh (H.get_new_self _ _) trivial).fresh⟩
    have hget2 : ((hh.new (.cells [.lit (.int .i64 0), .lit (.slice none 0 0)])).set hh.next (some (.cells [int q.chan, vq]))).get hh.next = some (.cells [int q.chan, vq]) := by rw [H.get_set, if_pos rfl]
    have hw0 : wr [.lit (.int .i64 0), .lit (.slice none 0 0)] 0 [int q.chan, vq] = [int q.chan, vq] := rfl
    rw [hw0] at s1
    have hn2 : ((hh.new (.cells [.lit (.int .i64 0), .lit (.slice none 0 0)])).set hh.next (some (.cells [int q.chan, vq]))).next = hh.next + 1 := rfl
    generalize ((hh.new (.cells [.lit (.int .i64 0), .lit (.slice none 0 0)])).set hh.next (some (.cells [int q.chan, vq]))) = h2' at s1 u2 hget2 hn2
    have l1 := H.at_ptr (off := 0) (n := 2) hget2 (Nat.le_refl _)
    have hce : V.cells (.agg [int q.chan, vq]) = [int q.chan, vq] := rfl
    simp only [List.drop_zero, List.take_of_length_le (show [int q.chan, vq].length ≤ 2 from Nat.le_refl _)] at l1
    simp only [eachBody, walk, WAct, natOf_int, natOf_lit, List.nil_append, List.cons_append, List.append_nil, if_true, if_false, reduceIte, Nat.reduceEqDiff, Nat.zero_add, Nat.reduceAdd, h1, h2, h3, h4, g1, g2, hce, s1, l1]
    refine chan_wf u2.fresh hvat fun h3' hle3 => ?_
    have own3 : Own h3' 1 (tm.nth 5) (((qs.map (·.chan)).take k).map int) k := h7.keep fun c hc => by
      have hcl : c < hh.next := by
        rcases h7 with ⟨e, _⟩ | ⟨b, cap, e, _, hg, _⟩
        · rw [e] at hc; exact hc.elim
        · rw [e] at hc; rw [show c = b from hc]; exact h6.fresh.lt hg
      rw [(u2.trans hle3).same c hcl (by simp)]
    obtain ⟨h4', p1, p2, p3, p4⟩ := append_one (bytes := 8) (c := [int q.chan]) hle3.fresh own3 rfl (by decide) rfl (by omega) (fun hne => keepB_of (by
      cases hl : ((qs.map (·.chan)).take k) with
      | nil => rw [hl] at hne; exact absurd rfl hne
      | cons a l => exact ⟨int a, by simp, rfl⟩))
    have hfl : fillP 0 1 (V.cells (int q.chan)) [.lit (.int .i64 0)] (fun l => some l) = some [int q.chan] := rfl
    have hfv : ∀ tm : TM, fillV [(0, 1, .t 17)] tm [.lit (.int .i64 0)] = fillP 0 1 (tm.nth 17).cells [.lit (.int .i64 0)] (fun l => some l) := fun _ => rfl
    simp only [walk, WAct, natOf_int, natOf_lit, List.nil_append, List.cons_append, List.append_nil, if_true, if_false, reduceIte, Nat.reduceEqDiff, Nat.zero_add, Nat.reduceAdd, hfv, hfl, lits_one (es := 1) (c := [int q.chan]) (h := h3') rfl, p1]
    simp only [walk, WAct, natOf_int, natOf_lit, List.nil_append, List.cons_append, List.append_nil, if_true, if_false, reduceIte, Nat.reduceEqDiff, Nat.zero_add, Nat.reduceAdd, h1, h2, h3, h4]
    refine ⟨trivial, trivial, trivial, trivial, trivial, trivial, ?_, ?_, ?_⟩
    · have u5 := (u2.trans hle3)
      refine ⟨Nat.le_trans h6.le (Nat.le_trans u5.le p4.le), fun b hb _ => ?_, p4.fresh⟩
      have hb2 : b < hh.next := Nat.lt_of_lt_of_le hb h6.le
      rw [p4.same b (Nat.lt_of_lt_of_le hb2 u5.le) (fun hh => by have := h8 b hh; omega), u5.same b hb2 (by simp), h6.same b hb (by simp)]
    · have hx2 : (qs.map (·.chan))[k]? = some q.chan := by simp [hx]
      rw [take_succ' hx2, List.map_append]; exact p2
    · intro c hc
      have : c = h3'.next + 1 := hc
      have := h6.le; have := (u2.trans hle3).le
      omega

/- whether a number is among others -/
def idxEqBody : C :=
  .seq (.reg [⟨some 10, .mov (.t 8), none⟩, ⟨some 5, .mov (.t 10), none⟩])
    (.seq (.reg [⟨some 11, .mov (.t 1), none⟩, ⟨some 12, .mov (.t 0), none⟩, ⟨some 13, .mov (.t 5), none⟩, ⟨some 14, .idxA 1 (.t 12) (.t 13), none⟩, ⟨some 15, .load none (.t 14), none⟩, ⟨some 16, .ar .eql (.t 11) (.t 15), none⟩])
      (.cond (.t 16) (.seq (.reg [⟨some 17, .mov (.t 5), none⟩, ⟨some 4, .mov (.t 17), none⟩]) .ret) .skip))
theorem f48_eq : f48 = ⟨19, [.tmp 4], none, .seq (.reg [⟨some 4, .mov (.c (.lit (.int .i64 0))), none⟩])
    (.seq (.seq (.reg [⟨some 6, .mov (.t 0), none⟩, ⟨some 7, .len .slc (.t 6), none⟩, ⟨some 8, .mov (.c (.lit (.int .i64 0))), none⟩]) (rangeLoop 0 1 9 8 7 18 idxEqBody))
      (.seq (.reg [⟨some 4, .mov (.c (.lit (.int .i64 (-1)))), none⟩]) .ret))⟩ := rfl

theorem contains_wf {N : Nat} {h : H} {Q : Ret → H → Prop} {s : V} {l : List Int} {a : Int} (hd : DInts N h s l) (hlen : l.length ≤ 140737488355328) (hq : Q (.ok (bool (decide (a ∈ l)))) h) : WF sp2 fs 12 [s, int a] h Q := by
  refine WF_enter (f := f12) rfl rfl rfl ?_
  simp only [f12, walk, WAct, natOf_int, natOf_lit, List.nil_append, List.cons_append, List.append_nil, if_true, if_false, reduceIte, Nat.reduceEqDiff, Nat.zero_add, Nat.reduceAdd]
  refine WF_enter (f := f48) rfl rfl rfl ?_
  rw [f48_eq]
  have hln := hd.len
  simp only [walk, WAct, natOf_int, natOf_lit, List.nil_append, List.cons_append, List.append_nil, if_true, if_false, reduceIte, Nat.reduceEqDiff, Nat.zero_add, Nat.reduceAdd, hln]
  refine WC_range (N := l.length) (J := fun k st => st.tm.nth 8 = int k ∧ st.tm.nth 7 = int l.length ∧ st.tm.nth 0 = s ∧ st.tm.nth 1 = int a ∧ st.df = [] ∧ st.h = h ∧ a ∉ l.take k) hlen (by decide) ?_ ?_ ?_ (by decide) ?_ ?_
  · simp only [walk, WAct, natOf_int, natOf_lit, List.nil_append, List.cons_append, List.append_nil, if_true, if_false, reduceIte, Nat.reduceEqDiff, Nat.zero_add, Nat.reduceAdd]
    exact ⟨rfl, trivial, trivial, trivial, trivial, trivial, by simp⟩
  · rintro k st ⟨h1, h2, _⟩; exact ⟨h1, h2⟩
  · rintro k ⟨tm, df, hh⟩ v ⟨h1, h2, h3, h4, h5⟩
    simp only [walk, WAct, natOf_int, natOf_lit, List.nil_append, List.cons_append, List.append_nil, if_true, if_false, reduceIte, Nat.reduceEqDiff, Nat.zero_add, Nat.reduceAdd]
    exact ⟨h1, h2, h3, h4, h5⟩
  · rintro ⟨tm, df, hh⟩ ⟨h1, h2, h3, h4, h5, h6, h7⟩
    simp only at h5 h6
    subst h5; subst h6
    simp only [walk, WAct, natOf_int, natOf_lit, List.nil_append, List.cons_append, List.append_nil, if_true, if_false, reduceIte, Nat.reduceEqDiff, Nat.zero_add, Nat.reduceAdd]
    rw [List.take_of_length_le (Nat.le_refl _)] at h7
    rw [show decide (a ∈ l) = false from by simpa using h7] at hq
    exact hq
  · rintro k ⟨tm, df, hh⟩ hk ⟨h1, h2, h3, h4, h5, h6, h7⟩
    simp only at h1 h2 h3 h4 h5 h6
    subst h5; subst h6
    have hx := List.getElem?_eq_getElem hk
    generalize l[k] = n at hx
    obtain ⟨p, g1, g2⟩ := hd.at hx
    simp only [idxEqBody, walk, WAct, natOf_int, natOf_lit, List.nil_append, List.cons_append, List.append_nil, if_true, if_false, reduceIte, Nat.reduceEqDiff, Nat.zero_add, Nat.reduceAdd, h1, h2, h3, h4, g1, g2]
    by_cases e : a = n
    · have e1 : decide (a = n) = true := by simp [e]
      simp only [e1, walk, WAct, natOf_int, natOf_lit, List.nil_append, List.cons_append, List.append_nil, if_true, if_false, reduceIte, Nat.reduceEqDiff, Nat.zero_add, Nat.reduceAdd]
      have : decide (0 ≤ (k : Int)) = true := by simp
      rw [this]
      rw [show decide (a ∈ l) = true from by simpa [e] using List.mem_of_getElem? hx] at hq
      exact hq
    · have e1 : decide (a = n) = false := by simp [e]
      simp only [e1, walk, WAct, natOf_int, natOf_lit, List.nil_append, List.cons_append, List.append_nil, if_true, if_false, reduceIte, Nat.reduceEqDiff, Nat.zero_add, Nat.reduceAdd, h1, h2, h3, h4]
      refine ⟨trivial, trivial, trivial, trivial, trivial, trivial, trivial, ?_⟩
      rw [take_succ' hx, List.mem_append]
      rintro (h9 | h9)
      · exact h7 h9
      · simp at h9; exact e h9

end A
end Go.Proofs.YtcohlhplpogopaaGreat

namespace Go.Proofs.YtcohlhplpogopaaGreat
namespace A

/- sizes that keep loops short -/
def most : Nat := 1000000
structure SmallX (x : PX) : Prop where
  spots : x.spots.length ≤ most
  queues : x.queues.length ≤ most
  waits : x.waits.length ≤ most
  queue : ∀ q, q ∈ x.queues → q.queue.length ≤ most ∧ ∀ l, l ∈ q.queue → l.length ≤ most
  env : ∀ w, w ∈ x.waits → w.env.length ≤ most

theorem below24_wf {a : Int} {h : H} {Q : Ret → H → Prop} (hq : Q (.ok (bool (belowB a 24))) h) : WF sp2 fs 112 [int a] h Q := by
  refine WF_enter (f := f112) rfl rfl rfl ?_
  simp only [f112, walk, WAct, natOf_int, natOf_lit, List.nil_append, List.cons_append, List.append_nil, if_true, if_false, reduceIte, Nat.reduceEqDiff, Nat.zero_add, Nat.reduceAdd]
  refine below_wf ?_
  simp only [walk, WAct, natOf_int, natOf_lit, List.nil_append, List.cons_append, List.append_nil, if_true, if_false, reduceIte, Nat.reduceEqDiff, Nat.zero_add, Nat.reduceAdd]
  exact hq

theorem allInts_wf {N : Nat} {h : H} {Q : Ret → H → Prop} {s : V} {l : List Int} (hf : HF h) (hN : N ≤ h.next) (hd : DInts N h s l) (hlen : l.length ≤ 140737488355328) (hq : ∀ h', Le h h' → Q (.ok (bool (l.all fun a => belowB a 24))) h') :
    WF sp2 fs 111 [s, .fn (.func 112) [] []] h Q := by
  refine allPure_wf (clos := 166) (cont := 165) (idx := 214) (es := 1) (ld := none) (elem := fun k => ((l.map int)[k]?).getD undefV) rfl rfl ⟨rfl, .inl ⟨rfl, rfl⟩⟩ rfl rfl rfl rfl (fun k => belowB ((l[k]?).getD 0) 24) hf hN hd.1 hd.2 (by simpa using hlen) (fun k hk => hd.1.elem1 (by simpa using hk)) ?_ ?_ ?_
  · intro k h' hk hf' _ _
    have hk' : k < l.length := by simpa using hk
    have : ((l.map int)[k]?).getD undefV = int ((l[k]?).getD 0) := by rw [List.getElem?_map, List.getElem?_eq_getElem hk']; rfl
    show WF sp2 fs 112 [((l.map int)[k]?).getD undefV] h' _
    rw [this]
    exact below24_wf ⟨rfl, Upd.refl hf'⟩
  · intro hall h' hle
    have := hq h' hle
    rwa [(all_getD (f := fun a => belowB a 24) 0).1 (fun k hk => hall k (by simpa using hk))] at this
  · rintro ⟨k, hk, hT⟩ h' hle
    have := hq h' hle
    rwa [any_getD (f := fun a => belowB a 24) 0 ⟨k, by simpa using hk, hT⟩] at this

theorem allMsgs_wf {N : Nat} {h : H} {Q : Ret → H → Prop} {s : V} {q : List (List Val)} (hf : HF h) (hN : N ≤ h.next) (hd : DMsgs N h s q) (hlen : q.length ≤ most) (hsm : ∀ l, l ∈ q → l.length ≤ most) (hq : ∀ h', Le h h' → Q (.ok (bool (q.all messageB))) h') :
    WF sp2 fs 116 [s, .fn (.func 117) [] []] h Q := by
  obtain ⟨vs, hr, hsb, ha2⟩ := hd
  have hvl := ha2.length
  unfold most at *
  refine allPure_wf (clos := 168) (cont := 167) (idx := 215) (es := 1) (ld := some 1) (elem := fun k => .agg ((((vs.map fun x => [x])[k]?)).getD [])) rfl rfl ⟨rfl, .inr ⟨rfl, rfl⟩⟩ rfl rfl rfl rfl (fun k => messageB ((q[k]?).getD [])) hf hN hr hsb (by simp; omega) (fun k hk => hr.elem hk) ?_ ?_ ?_
  · intro k h' hk hf' hN' hlow
    have hk' : k < q.length := by simp at hk; omega
    have hx := List.getElem?_eq_getElem hk'
    obtain ⟨v, hv1, hv2⟩ := ha2.get hx
    have e1 : ((vs.map fun x => [x])[k]?).getD [] = [v] := by rw [List.getElem?_map, hv1]; rfl
    show WF sp2 fs 117 [.agg (((vs.map fun x => [x])[k]?).getD [])] h' _
    rw [e1]
    refine message_wf hf' hN' (hv2.move hlow) ?_ fun h'' hle => ⟨by rw [hx]; rfl, hle⟩
    have := hsm _ (List.getElem_mem hk')
    omega
  · intro hall h' hle
    have := hq h' hle
    rwa [(all_getD (f := messageB) []).1 (fun k hk => hall k (by simp; omega))] at this
  · rintro ⟨k, hk, hT⟩ h' hle
    have := hq h' hle
    rwa [any_getD (f := messageB) [] ⟨k, by simp at hk; omega, hT⟩] at this

def queueB (q : PQ) : Bool := belowB q.chan 60 && (decide (1 ≤ q.queue.length) && (decide (q.queue.length ≤ 12) && q.queue.all messageB))

theorem DMsgs.len {N : Nat} {h : H} {v : V} {q : List (List Val)} (d : DMsgs N h v q) : cond (isNK .slc v) (lenV v h) none = some (int q.length, h) := by
  obtain ⟨vs, hr, _, ha2⟩ := d
  have := hr.sl.lenV
  rw [List.length_map, ha2.length] at this
  exact this
theorem DMsgs.atom {N : Nat} {h : H} {v : V} {q : List (List Val)} (d : DMsgs N h v q) : v.atom = true := by
  obtain ⟨vs, hr, _, _⟩ := d
  exact atom_slc hr.sl.nk
theorem DVals.atom {N : Nat} {h : H} {v : V} {q : List Val} (d : DVals N h v q) : v.atom = true := atom_slc d.1.sl.nk

theorem atoms2 {a b : V} (h1 : a.atom = true) (h2 : b.atom = true) : allAtoms [a, b] = true := by
  show cond a.atom (cond b.atom true false) false = true
  rw [h1, h2]; rfl

theorem queue_wf {N : Nat} {h : H} {Q : Ret → H → Prop} {v : V} {q : PQ} (hf : HF h) (hN : N ≤ h.next) (hd : DMsgs N h v q.queue) (hlen : q.queue.length ≤ most) (hsm : ∀ l, l ∈ q.queue → l.length ≤ most) (hq : ∀ h', Le h h' → Q (.ok (bool (queueB q))) h') :
    WF sp2 fs 115 [.agg [int q.chan, v]] h Q := by
  refine WF_enter (f := f115) rfl rfl rfl ?_
  obtain ⟨h1, hb, hle, hg, _, _⟩ := boxed (l := [int q.chan, v]) hf (atoms2 rfl hd.atom)
  have a1 := fieldAV_ptr (off := 0) (o := 0) hg
  have a2 := fieldAV_ptr (off := 0) (o := 1) hg
  have b1 := H.at1_ptr (off := 0) hg
  have b2 := H.at1_ptr (off := 1) hg
  simp only [List.getElem?_cons_zero, List.getElem?_cons_succ, Nat.zero_add] at a1 a2 b1 b2
  have hd1 := hd.move (hle.lowLe hN)
  have hln := hd1.len
  simp only [f115, walk, WAct, natOf_int, natOf_lit, List.nil_append, List.cons_append, List.append_nil, if_true, if_false, reduceIte, Nat.reduceEqDiff, Nat.zero_add, Nat.reduceAdd, hb, a1, b1]
  refine below_wf ?_
  simp only [walk, WAct, natOf_int, natOf_lit, List.nil_append, List.cons_append, List.append_nil, if_true, if_false, reduceIte, Nat.reduceEqDiff, Nat.zero_add, Nat.reduceAdd]
  have hqe : queueB q = (belowB q.chan 60 && (decide (1 ≤ (q.queue.length : Int)) && (decide ((q.queue.length : Int) ≤ 12) && q.queue.all messageB))) := by
    unfold queueB
    congr 2
    · rw [decide_eq_decide]; omega
    · congr 1
      rw [decide_eq_decide]; omega
  rw [hqe] at hq
  show _
  cases e1 : belowB q.chan 60 with
  | false =>
    rw [e1, Bool.false_and] at hq
    have e1' : decide (0 ≤ q.chan ∧ q.chan < 60) = false := e1
    simp only [e1', walk, WAct, natOf_int, natOf_lit, List.nil_append, List.cons_append, List.append_nil, if_true, if_false, reduceIte, Nat.reduceEqDiff, Nat.zero_add, Nat.reduceAdd, a2, b2, hln]
    exact hq _ hle
  | true =>
    rw [e1, Bool.true_and] at hq
    have e1' : decide (0 ≤ q.chan ∧ q.chan < 60) = true := e1
    simp only [e1', walk, WAct, natOf_int, natOf_lit, List.nil_append, List.cons_append, List.append_nil, if_true, if_false, reduceIte, Nat.reduceEqDiff, Nat.zero_add, Nat.reduceAdd, a2, b2, hln]
    cases e2 : decide (1 ≤ (q.queue.length : Int)) with
    | false =>
      rw [e2, Bool.false_and] at hq
      simp only [walk, WAct, natOf_int, natOf_lit, List.nil_append, List.cons_append, List.append_nil, if_true, if_false, reduceIte, Nat.reduceEqDiff, Nat.zero_add, Nat.reduceAdd, a2, b2, hln]
      exact hq _ hle
    | true =>
      rw [e2, Bool.true_and] at hq
      simp only [walk, WAct, natOf_int, natOf_lit, List.nil_append, List.cons_append, List.append_nil, if_true, if_false, reduceIte, Nat.reduceEqDiff, Nat.zero_add, Nat.reduceAdd, a2, b2, hln]
      cases e3 : decide ((q.queue.length : Int) ≤ 12) with
      | false =>
        rw [e3, Bool.false_and] at hq
        simp only [walk, WAct, natOf_int, natOf_lit, List.nil_append, List.cons_append, List.append_nil, if_true, if_false, reduceIte, Nat.reduceEqDiff, Nat.zero_add, Nat.reduceAdd, a2, b2, hln]
        exact hq _ hle
      | true =>
        rw [e3, Bool.true_and] at hq
        simp only [walk, WAct, natOf_int, natOf_lit, List.nil_append, List.cons_append, List.append_nil, if_true, if_false, reduceIte, Nat.reduceEqDiff, Nat.zero_add, Nat.reduceAdd, a2, b2, hln]
        refine allMsgs_wf hle.fresh (Nat.le_trans hN hle.le) hd1 hlen hsm fun h2 hle2 => ?_
        simp only [walk, WAct, natOf_int, natOf_lit, List.nil_append, List.cons_append, List.append_nil, if_true, if_false, reduceIte, Nat.reduceEqDiff, Nat.zero_add, Nat.reduceAdd]
        exact hq _ (hle.trans hle2)

theorem allQueues_wf {N : Nat} {h : H} {Q : Ret → H → Prop} {s : V} {qs : List PQ} (hf : HF h) (hN : N ≤ h.next) (hd : DQueues N h s qs) (hlen : qs.length ≤ most) (hsm : ∀ q, q ∈ qs → q.queue.length ≤ most ∧ ∀ l, l ∈ q.queue → l.length ≤ most)
    (hq : ∀ h', Le h h' → Q (.ok (bool (qs.all queueB))) h') : WF sp2 fs 121 [s, .fn (.func 115) [] []] h Q := by
  obtain ⟨vs, hr, hsb, ha2⟩ := hd
  have hvl := ha2.length
  have hel := encQ_length hvl
  unfold most at *
  refine allPure_wf (clos := 172) (cont := 171) (idx := 217) (es := 2) (ld := some 2) (elem := fun k => .agg ((((encQ vs qs)[k]?)).getD [])) rfl rfl ⟨rfl, .inr ⟨rfl, rfl⟩⟩ rfl rfl rfl rfl (fun k => queueB ((qs[k]?).getD ⟨0, []⟩)) hf hN hr hsb (by omega) (fun k hk => hr.elem hk) ?_ ?_ ?_
  · intro k h' hk hf' hN' hlow
    have hk' : k < qs.length := by omega
    have hx := List.getElem?_eq_getElem hk'
    obtain ⟨v, hv1, hv2⟩ := ha2.get hx
    have e1 : ((encQ vs qs)[k]?).getD [] = [int (qs[k]).chan, v] := by rw [encQ_get hv1 hx]; rfl
    show WF sp2 fs 115 [.agg (((encQ vs qs)[k]?).getD [])] h' _
    rw [e1]
    obtain ⟨g1, g2⟩ := hsm _ (List.getElem_mem hk')
    exact queue_wf hf' hN' (hv2.move hlow) g1 g2 fun h'' hle => ⟨by rw [hx]; rfl, hle⟩
  · intro hall h' hle
    have := hq h' hle
    rwa [(all_getD (f := queueB) ⟨0, []⟩).1 (fun k hk => hall k (by omega))] at this
  · rintro ⟨k, hk, hT⟩ h' hle
    have := hq h' hle
    rwa [any_getD (f := queueB) ⟨0, []⟩ ⟨k, by omega, hT⟩] at this

/- processes that wait -/
def waitB (spots : List Int) (last : Int) (w : PW) : Bool :=
  (decide (last < w.nth) && decide (w.nth < 40)) && (decide (w.at' ∈ spots) && (belowB w.node 60 && w.env.all valueB))

theorem wait_wf {N lb xb : Nat} {h : H} {Q : Ret → H → Prop} {va vb vc ve : V} {spots : List Int} {last : Int} {w : PW} (hf : HF h) (hN : N ≤ h.next) (hL : h.get lb = some (.cells [int last])) (hX : h.get xb = some (.cells [va, vb, vc])) (hNL : N ≤ lb) (hLX : xb ≠ lb)
    (hs : DInts N h va spots) (he : DVals N h ve w.env) (hsl : spots.length ≤ most) (hel : w.env.length ≤ most) (hq : ∀ h', Upd (fun b => b = lb) h h' → h'.get lb = some (.cells [int w.nth]) → Q (.ok (bool (waitB spots last w))) h') :
    WF sp2 fs 118 [.agg [int w.nth, int w.at', int w.node, ve], .ptr lb 0, .ptr xb 0] h Q := by
  refine WF_enter (f := f118) rfl rfl rfl ?_
  have hat : allAtoms [int w.nth, int w.at', int w.node, ve] = true := by
    show cond true (cond true (cond true (cond ve.atom true false) false) false) false = true
    rw [he.atom]; rfl
  unfold most at *
  obtain ⟨h1, hb, hle, hg, _, hold⟩ := boxed (l := [int w.nth, int w.at', int w.node, ve]) hf hat
  have a0 := fieldAV_ptr (off := 0) (o := 0) hg
  have b0 := H.at1_ptr (off := 0) hg
  have bL := H.at1_ptr (off := 0) (hold _ _ hL)
  simp only [List.getElem?_cons_zero, List.getElem?_cons_succ, Nat.zero_add] at a0 b0 bL
  have s1 := store_ptr (off := 0) (n := 1) (xs := [int w.nth]) (hold _ _ hL) rfl (Nat.le_refl _) rfl rfl
  rw [show wr [int last] 0 [int w.nth] = [int w.nth] from rfl] at s1
  have hLlt := hf.lt hL
  have hbox : h.next ≠ lb := by omega
  have u2 : Upd (fun b => b = lb) h (h1.set lb (some (.cells [int w.nth]))) :=
    ⟨hle.le, fun b hb hne => by rw [H.get_set, if_neg hne]; exact hle.same b hb (by simp), (Le.toSet (S := fun _ => True) _ hle.fresh (hold _ _ hL) trivial).fresh⟩
  have hL2 : (h1.set lb (some (.cells [int w.nth]))).get lb = some (.cells [int w.nth]) := by rw [H.get_set, if_pos rfl]
  have hX2 : (h1.set lb (some (.cells [int w.nth]))).get xb = some (.cells [va, vb, vc]) := by rw [H.get_set, if_neg hLX]; exact hold _ _ hX
  have hg2 : (h1.set lb (some (.cells [int w.nth]))).get h.next = some (.cells [int w.nth, int w.at', int w.node, ve]) := by rw [H.get_set, if_neg hbox]; exact hg
  have hn2 : h.next ≤ (h1.set lb (some (.cells [int w.nth]))).next := hle.le
  generalize h1.set lb (some (.cells [int w.nth])) = h2 at s1 u2 hL2 hX2 hg2 hn2
  have hs2 := hs.move (u2.low hN (fun b hb => by rw [hb]; exact hNL))
  have he2 := he.move (u2.low hN (fun b hb => by rw [hb]; exact hNL))
  have hfin := hq h2 u2 hL2
  have x0 := fieldAV_ptr (off := 0) (o := 0) hX2
  have y0 := H.at1_ptr (off := 0) hX2
  have x1 := fieldAV_ptr (off := 0) (o := 1) hg2
  have x10 := fieldAV_ptr (off := 1) (o := 0) hg2
  have x11 := fieldAV_ptr (off := 1) (o := 1) hg2
  have x12 := fieldAV_ptr (off := 1) (o := 2) hg2
  have y1 := H.at1_ptr (off := 1) hg2
  have y2 := H.at1_ptr (off := 2) hg2
  have y3 := H.at1_ptr (off := 3) hg2
  simp only [List.getElem?_cons_zero, List.getElem?_cons_succ, Nat.zero_add, Nat.reduceAdd] at x0 y0 x1 x10 x11 x12 y1 y2 y3
  have hce : V.cells (int w.nth) = [int w.nth] := rfl
  simp only [f118, walk, WAct, natOf_int, natOf_lit, List.nil_append, List.cons_append, List.append_nil, if_true, if_false, reduceIte, Nat.reduceEqDiff, Nat.zero_add, Nat.reduceAdd, hb, a0, b0, bL]
  unfold waitB at hfin hq
  -- the test of the number
  have tail : ∀ (c : Bool) (tm : TM), tm.nth 5 = bool c → tm.nth 2 = .ptr xb 0 → tm.nth 3 = .ptr h.next 0 → (decide (last < w.nth) && decide (w.nth < 40)) = c →
      WOps sp2 fs [⟨some 17, .mov (.t 5), none⟩, ⟨some 18, .mov (.t 17), none⟩, ⟨some 19, .fieldA 0 (.t 2), some (18, true)⟩, ⟨some 20, .load none (.t 19), some (18, true)⟩, ⟨some 21, .fieldA 1 (.t 3), some (18, true)⟩, ⟨some 22, .fieldA 0 (.t 21), some (18, true)⟩, ⟨some 23, .load none (.t 22), some (18, true)⟩,
        ⟨some 24, .call (.c (.fn (.func 12) [] [])) [.t 20, .t 23], some (18, true)⟩, ⟨some 25, .pick (.t 18) (.t 24) (.c (.lit (.bool false))), none⟩, ⟨some 26, .mov (.t 25), none⟩, ⟨some 27, .fieldA 1 (.t 3), some (26, true)⟩, ⟨some 28, .fieldA 1 (.t 27), some (26, true)⟩, ⟨some 29, .load none (.t 28), some (26, true)⟩,
        ⟨some 30, .call (.c (.fn (.func 43) [] [])) [.t 29, .c (.lit (.int .i64 60))], some (26, true)⟩, ⟨some 31, .pick (.t 26) (.t 30) (.c (.lit (.bool false))), none⟩, ⟨some 32, .mov (.t 31), none⟩, ⟨some 33, .fieldA 1 (.t 3), some (32, true)⟩, ⟨some 34, .fieldA 2 (.t 33), some (32, true)⟩, ⟨some 35, .load none (.t 34), some (32, true)⟩,
        ⟨some 36, .call (.c (.fn (.func 119) [] [])) [.t 35, .c (.fn (.func 120) [] [])], some (32, true)⟩, ⟨some 37, .pick (.t 32) (.t 36) (.c (.lit (.bool false))), none⟩, ⟨some 4, .mov (.t 37), none⟩] ⟨tm, [], h2⟩ (kSeq (fun st' => WC sp2 fs .ret st' (kEnd [.tmp 4] Q)) (kEnd [.tmp 4] Q)) := by
    intro c tm t5 t2 t3 hc
    rw [hc] at hfin hq
    cases c with
    | false =>
      rw [Bool.false_and] at hfin
      simp only [walk, WAct, natOf_int, natOf_lit, List.nil_append, List.cons_append, List.append_nil, if_true, if_false, reduceIte, Nat.reduceEqDiff, Nat.zero_add, Nat.reduceAdd, t5, t2, t3]
      exact hfin
    | true =>
      rw [Bool.true_and] at hfin hq
      simp only [walk, WAct, natOf_int, natOf_lit, List.nil_append, List.cons_append, List.append_nil, if_true, if_false, reduceIte, Nat.reduceEqDiff, Nat.zero_add, Nat.reduceAdd, t5, t2, t3, x0, y0, x1, x10, y1]
      refine contains_wf hs2 (by omega) ?_
      simp only [walk, WAct, natOf_int, natOf_lit, List.nil_append, List.cons_append, List.append_nil, if_true, if_false, reduceIte, Nat.reduceEqDiff, Nat.zero_add, Nat.reduceAdd, t5, t2, t3]
      cases e1 : decide (w.at' ∈ spots) with
      | false =>
        rw [e1, Bool.false_and] at hfin
        simp only [walk, WAct, natOf_int, natOf_lit, List.nil_append, List.cons_append, List.append_nil, if_true, if_false, reduceIte, Nat.reduceEqDiff, Nat.zero_add, Nat.reduceAdd, t5, t2, t3]
        exact hfin
      | true =>
        rw [e1, Bool.true_and] at hfin hq
        simp only [walk, WAct, natOf_int, natOf_lit, List.nil_append, List.cons_append, List.append_nil, if_true, if_false, reduceIte, Nat.reduceEqDiff, Nat.zero_add, Nat.reduceAdd, t5, t2, t3, x1, x11, y2]
        refine below_wf ?_
        simp only [walk, WAct, natOf_int, natOf_lit, List.nil_append, List.cons_append, List.append_nil, if_true, if_false, reduceIte, Nat.reduceEqDiff, Nat.zero_add, Nat.reduceAdd, t5, t2, t3]
        cases e2 : belowB w.node 60 with
        | false =>
          rw [e2, Bool.false_and] at hfin
          have e2' : decide (0 ≤ w.node ∧ w.node < 60) = false := e2
          simp only [e2', walk, WAct, natOf_int, natOf_lit, List.nil_append, List.cons_append, List.append_nil, if_true, if_false, reduceIte, Nat.reduceEqDiff, Nat.zero_add, Nat.reduceAdd, t5, t2, t3]
          exact hfin
        | true =>
          rw [e2, Bool.true_and] at hfin hq
          have e2' : decide (0 ≤ w.node ∧ w.node < 60) = true := e2
          simp only [e2', walk, WAct, natOf_int, natOf_lit, List.nil_append, List.cons_append, List.append_nil, if_true, if_false, reduceIte, Nat.reduceEqDiff, Nat.zero_add, Nat.reduceAdd, t5, t2, t3, x1, x12, y3]
          refine allVals_wf u2.fresh (Nat.le_trans hN hn2) he2 (by omega) fun h3 hle3 => ?_
          simp only [walk, WAct, natOf_int, natOf_lit, List.nil_append, List.cons_append, List.append_nil, if_true, if_false, reduceIte, Nat.reduceEqDiff, Nat.zero_add, Nat.reduceAdd]
          exact hq h3 (u2.trans (hle3.mono fun b _ hb => hb.elim)) (hle3.get u2.fresh hL2 (by simp))
  cases e0 : decide (last < w.nth) with
  | false =>
    simp only [walk, WAct, natOf_int, natOf_lit, List.nil_append, List.cons_append, List.append_nil, if_true, if_false, reduceIte, Nat.reduceEqDiff, Nat.zero_add, Nat.reduceAdd, a0, b0, bL, hce, s1]
    rw [e0, Bool.false_and, Bool.false_and] at hfin
    exact hfin
  | true =>
    simp only [walk, WAct, natOf_int, natOf_lit, List.nil_append, List.cons_append, List.append_nil, if_true, if_false, reduceIte, Nat.reduceEqDiff, Nat.zero_add, Nat.reduceAdd, a0, b0, bL, hce, s1]
    have := tail (decide (w.nth < 40))
    simp only [walk, WAct, natOf_int, natOf_lit, List.nil_append, List.cons_append, List.append_nil, if_true, if_false, reduceIte, Nat.reduceEqDiff, Nat.zero_add, Nat.reduceAdd] at this
    refine this _ ?_ ?_ ?_ (by rw [e0, Bool.true_and]) <;> simp only [walk, WAct, natOf_int, natOf_lit, List.nil_append, List.cons_append, List.append_nil, if_true, if_false, reduceIte, Nat.reduceEqDiff, Nat.zero_add, Nat.reduceAdd]

end A
end Go.Proofs.YtcohlhplpogopaaGreat

namespace Go.Proofs.YtcohlhplpogopaaGreat
namespace A

def lastAt (ws : List PW) (k : Nat) : Int := if k = 0 then -1 else ((ws[k - 1]?).getD ⟨0, 0, 0, []⟩).nth
def waitAt (spots : List Int) (ws : List PW) (k : Nat) : Bool := waitB spots (lastAt ws k) ((ws[k]?).getD ⟨0, 0, 0, []⟩)
def waitsB (spots : List Int) (ws : List PW) : Bool := (List.range ws.length).all (waitAt spots ws)

theorem waitsB_true {spots : List Int} {ws : List PW} (h : ∀ k, k < ws.length → waitAt spots ws k = true) : waitsB spots ws = true := by
  unfold waitsB
  rw [List.all_eq_true]
  intro k hk
  exact h k (List.mem_range.1 hk)
theorem waitsB_false {spots : List Int} {ws : List PW} {k : Nat} (hk : k < ws.length) (h : waitAt spots ws k = false) : waitsB spots ws = false := by
  cases hb : waitsB spots ws with
  | false => rfl
  | true =>
    unfold waitsB at hb
    rw [List.all_eq_true] at hb
    have := hb k (List.mem_range.2 hk)
    rw [h] at this; cases this

theorem allWaits_wf {N lb xb : Nat} {h : H} {Q : Ret → H → Prop} {va vb vc s : V} {spots : List Int} {ws : List PW} (hf : HF h) (hN : N ≤ h.next) (hL : h.get lb = some (.cells [int (-1)])) (hX : h.get xb = some (.cells [va, vb, vc])) (hNL : N ≤ lb) (hLX : xb ≠ lb)
    (hs : DInts N h va spots) (hd : DWaits N h s ws) (hsl : spots.length ≤ most) (hlen : ws.length ≤ most) (hsm : ∀ w, w ∈ ws → w.env.length ≤ most) (hq : ∀ h', Upd (fun b => b = lb) h h' → Q (.ok (bool (waitsB spots ws))) h') :
    WF sp2 fs 122 [s, .fn (.func 118) [] [.ptr lb 0, .ptr xb 0]] h Q := by
  obtain ⟨vs, hr, hsb, ha2⟩ := hd
  have hvl := ha2.length
  have hel := encW_length hvl
  have hlt := hf.lt hL
  have hxt := hf.lt hX
  have hm : most = 1000000 := rfl
  refine all_wf (clos := 174) (cont := 173) (idx := 218) (es := 4) (ld := some 4) (cells := (encW vs ws).flatten) (len := (encW vs ws).length) (elem := fun k => .agg ((((encW vs ws)[k]?)).getD [])) rfl rfl ⟨rfl, .inr ⟨rfl, rfl⟩⟩ rfl rfl rfl rfl (fun b => b = lb)
    (fun k h' => HF h' ∧ Low N h h' ∧ h.next ≤ h'.next ∧ h'.get lb = some (.cells [int (lastAt ws k)]) ∧ h'.get xb = some (.cells [va, vb, vc]) ∧ ∀ j, j < k → waitAt spots ws j = true) (fun k h' => waitAt spots ws k = false) hf (fun b hb => by rw [hb]; exact hlt) (by omega) hr.atoms
    (fun k h' hh => (hr.move hsb hh.2.1).sl) (fun k hk => hr.elem hk) ?_ ?_ ⟨hf, Low.refl _ _, Nat.le_refl _, hL, hX, fun j hj => absurd hj (Nat.not_lt_zero _)⟩ ?_ ?_
  · rintro k h' h'' ⟨g0, g1, g2, g3, g4, g5⟩ hle
    exact ⟨hle.fresh, g1.trans (hle.lowLe (Nat.le_trans hN g2)), Nat.le_trans g2 hle.le, hle.get g0 g3 (by simp), hle.get g0 g4 (by simp), g5⟩
  · rintro k h' hk hf' ⟨g0, g1, g2, g3, g4, g5⟩
    have hk' : k < ws.length := by omega
    have hx := List.getElem?_eq_getElem hk'
    have hmem := List.getElem_mem hk'
    obtain ⟨v, hv1, hv2⟩ := ha2.get hx
    have hT : waitAt spots ws k = waitB spots (lastAt ws k) (ws[k]) := by unfold waitAt; rw [hx]; rfl
    have hnext : lastAt ws (k + 1) = (ws[k]).nth := by unfold lastAt; rw [if_neg (by omega), Nat.add_sub_cancel, hx]; rfl
    generalize ws[k] = w at hx hT hnext hv2 hmem
    have e1 : ((encW vs ws)[k]?).getD [] = [int w.nth, int w.at', int w.node, v] := by rw [encW_get hv1 hx]; rfl
    show WF sp2 fs 118 (.agg (((encW vs ws)[k]?).getD []) :: [.ptr lb 0, .ptr xb 0]) h' _
    rw [e1]
    refine wait_wf hf' (Nat.le_trans hN g2) g3 g4 hNL hLX (hs.move g1) (hv2.move g1) hsl (hsm w hmem) fun h'' hu hl2 => ?_
    refine ⟨_, rfl, hu, ?_⟩
    rw [← hT]
    cases hTk : waitAt spots ws k with
    | true =>
      rw [if_pos rfl]
      refine ⟨hu.fresh, g1.trans (hu.low (Nat.le_trans hN g2) fun b hb => by rw [hb]; exact hNL), Nat.le_trans g2 hu.le, by rw [hnext]; exact hl2, hu.get hf' g4 hLX, fun j hj => ?_⟩
      by_cases e : j = k
      · rw [e]; exact hTk
      · exact g5 j (by omega)
    | false => rw [if_neg (by decide)]
  · rintro h' hu ⟨_, _, _, _, _, g⟩
    have := hq h' hu
    rwa [waitsB_true fun k hk => g k (by omega)] at this
  · rintro k h' hk hu hT
    have := hq h' hu
    rwa [waitsB_false (by omega) hT] at this

def sizesB (x : PX) : Bool := decide (x.spots.length < 1) || (decide (24 < x.spots.length) || (decide (60 < x.queues.length) || decide (40 < x.waits.length)))
def fineB (x : PX) : Bool := !sizesB x && ((onceB x.spots && x.spots.all fun a => belowB a 24) && (onceB (x.queues.map (·.chan)) && (x.queues.all queueB && waitsB x.spots x.waits)))

theorem DQueues.len {N : Nat} {h : H} {v : V} {q : List PQ} (d : DQueues N h v q) : cond (isNK .slc v) (lenV v h) none = some (int q.length, h) := by
  obtain ⟨vs, hr, _, ha2⟩ := d
  have := hr.sl.lenV
  rw [encQ_length ha2.length] at this
  exact this
theorem DWaits.len {N : Nat} {h : H} {v : V} {q : List PW} (d : DWaits N h v q) : cond (isNK .slc v) (lenV v h) none = some (int q.length, h) := by
  obtain ⟨vs, hr, _, ha2⟩ := d
  have := hr.sl.lenV
  rw [encW_length ha2.length] at this
  exact this
theorem DInts.atom {N : Nat} {h : H} {v : V} {q : List Int} (d : DInts N h v q) : v.atom = true := atom_slc d.1.sl.nk
theorem DQueues.atom {N : Nat} {h : H} {v : V} {q : List PQ} (d : DQueues N h v q) : v.atom = true := by obtain ⟨vs, hr, _, _⟩ := d; exact atom_slc hr.sl.nk
theorem DWaits.atom {N : Nat} {h : H} {v : V} {q : List PW} (d : DWaits N h v q) : v.atom = true := by obtain ⟨vs, hr, _, _⟩ := d; exact atom_slc hr.sl.nk

def fineRest : C :=
  (.seq (.seq (.reg [⟨some 28, .fieldA 0 (.t 1), none⟩, ⟨some 29, .load none (.t 28), none⟩, ⟨some 30, .call (.c (.fn (.func 110) [] [])) [.t 29], none⟩, ⟨some 31, .not (.t 30), none⟩, ⟨some 32, .mov (.t 31), none⟩, ⟨some 33, .fieldA 0 (.t 1), some (32, false)⟩, ⟨some 34, .load none (.t 33), some (32, false)⟩,
          ⟨some 35, .call (.c (.fn (.func 111) [] [])) [.t 34, .c (.fn (.func 112) [] [])], some (32, false)⟩, ⟨some 36, .not (.t 35), some (32, false)⟩, ⟨some 37, .pick (.t 32) (.c (.lit (.bool true))) (.t 36), none⟩])
        (.cond (.t 37) (.seq (.reg [⟨some 2, .mov (.c (.lit (.bool false))), none⟩]) .ret) .skip))
        (.seq (.seq (.reg [⟨some 38, .fieldA 1 (.t 1), none⟩, ⟨some 39, .load none (.t 38), none⟩, ⟨some 40, .call (.c (.fn (.func 113) [] [])) [.t 39, .c (.fn (.func 114) [] [])], none⟩, ⟨some 41, .call (.c (.fn (.func 110) [] [])) [.t 40], none⟩, ⟨some 42, .not (.t 41), none⟩])
          (.cond (.t 42) (.seq (.reg [⟨some 2, .mov (.c (.lit (.bool false))), none⟩]) .ret) .skip))
        (.seq (.reg [⟨some 3, .mov (.c (.fn (.func 115) [] [])), none⟩]) (.seq (.reg [⟨some 4, .alloc [.lit (.int .i64 0)], none⟩, ⟨none, .store 1 (.t 4) (.c (.lit (.int .i64 (-1)))), none⟩])
        (.seq (.reg [⟨some 43, .func (.func 118) [] [.t 4, .t 1], none⟩, ⟨some 5, .mov (.t 43), none⟩])
        (.seq (.reg [⟨some 44, .fieldA 1 (.t 1), none⟩, ⟨some 45, .load none (.t 44), none⟩, ⟨some 46, .mov (.t 3), none⟩, ⟨some 47, .call (.c (.fn (.func 121) [] [])) [.t 45, .t 46], none⟩, ⟨some 48, .mov (.t 47), none⟩, ⟨some 49, .fieldA 2 (.t 1), some (48, true)⟩, ⟨some 50, .load none (.t 49), some (48, true)⟩, ⟨some 51, .mov (.t 5), some (48, true)⟩,
          ⟨some 52, .call (.c (.fn (.func 122) [] [])) [.t 50, .t 51], some (48, true)⟩, ⟨some 53, .pick (.t 48) (.t 52) (.c (.lit (.bool false))), none⟩, ⟨some 2, .mov (.t 53), none⟩]) .ret))))))
theorem f49_eq : f49 = ⟨54, [.tmp 2], none, .seq (.reg [⟨some 1, .box (.t 0), none⟩, ⟨some 2, .mov (.c (.lit (.bool false))), none⟩])
    (.seq (.seq (.reg [⟨some 6, .fieldA 0 (.t 1), none⟩, ⟨some 7, .load none (.t 6), none⟩, ⟨some 8, .len .slc (.t 7), none⟩, ⟨some 9, .ar .lss (.t 8) (.c (.lit (.int .i64 1))), none⟩, ⟨some 10, .mov (.t 9), none⟩, ⟨some 11, .fieldA 0 (.t 1), some (10, false)⟩, ⟨some 12, .load none (.t 11), some (10, false)⟩,
        ⟨some 13, .len .slc (.t 12), some (10, false)⟩, ⟨some 14, .ar .gtr (.t 13) (.c (.lit (.int .i64 24))), some (10, false)⟩, ⟨some 15, .pick (.t 10) (.c (.lit (.bool true))) (.t 14), none⟩, ⟨some 16, .mov (.t 15), none⟩, ⟨some 17, .fieldA 1 (.t 1), some (16, false)⟩, ⟨some 18, .load none (.t 17), some (16, false)⟩,
        ⟨some 19, .len .slc (.t 18), some (16, false)⟩, ⟨some 20, .ar .gtr (.t 19) (.c (.lit (.int .i64 60))), some (16, false)⟩, ⟨some 21, .pick (.t 16) (.c (.lit (.bool true))) (.t 20), none⟩, ⟨some 22, .mov (.t 21), none⟩, ⟨some 23, .fieldA 2 (.t 1), some (22, false)⟩, ⟨some 24, .load none (.t 23), some (22, false)⟩,
        ⟨some 25, .len .slc (.t 24), some (22, false)⟩, ⟨some 26, .ar .gtr (.t 25) (.c (.lit (.int .i64 40))), some (22, false)⟩, ⟨some 27, .pick (.t 22) (.c (.lit (.bool true))) (.t 26), none⟩])
      (.cond (.t 27) (.seq (.reg [⟨some 2, .mov (.c (.lit (.bool false))), none⟩]) .ret) .skip)) fineRest)⟩ := rfl

theorem fine_wf {N : Nat} {h : H} {Q : Ret → H → Prop} {v : V} {x : PX} (hf : HF h) (hN : N ≤ h.next) (hd : DParcel N h v x) (hsm : SmallX x) (hq : ∀ h', Le h h' → Q (.ok (bool (fineB x))) h') : WF sp2 fs 49 [v] h Q := by
  obtain ⟨va, vb, vc, rfl, ds, dq, dw⟩ := hd
  obtain ⟨m1, m2, m3, m4, m5⟩ := hsm
  have hm : most = 1000000 := rfl
  refine WF_enter (f := f49) rfl rfl rfl ?_
  have hat : allAtoms [va, vb, vc] = true := by
    show cond va.atom (cond vb.atom (cond vc.atom true false) false) false = true
    rw [ds.atom, dq.atom, dw.atom]; rfl
  obtain ⟨h1, hb, hle, hg, hn1, _⟩ := boxed (l := [va, vb, vc]) hf hat
  have lo1 := hle.lowLe hN
  -- what is read of the box, in any later heap
  have rd : ∀ {hh : H}, hh.get h.next = some (.cells [va, vb, vc]) → fieldAV 0 (.ptr h.next 0) hh = some (.ptr h.next 0, hh) ∧ fieldAV 1 (.ptr h.next 0) hh = some (.ptr h.next 1, hh) ∧ fieldAV 2 (.ptr h.next 0) hh = some (.ptr h.next 2, hh) ∧
      hh.at1 (.ptr h.next 0) = some va ∧ hh.at1 (.ptr h.next 1) = some vb ∧ hh.at1 (.ptr h.next 2) = some vc := by
    intro hh hgg
    exact ⟨fieldAV_ptr (off := 0) (o := 0) hgg, by simpa using fieldAV_ptr (off := 0) (o := 1) hgg, by simpa using fieldAV_ptr (off := 0) (o := 2) hgg, by simpa using H.at1_ptr (off := 0) hgg, by simpa using H.at1_ptr (off := 1) hgg, by simpa using H.at1_ptr (off := 2) hgg⟩
  obtain ⟨a0, a1, a2, b0, b1, b2⟩ := rd hg
  have n0 := (ds.move lo1).len
  have n1 := (dq.move lo1).len
  have n2 := (dw.move lo1).len
  -- the rest, behind the test of sizes
  have rest : ∀ tm : TM, tm.nth 1 = .ptr h.next 0 → sizesB x = false →
      WC sp2 fs fineRest ⟨tm, [], h1⟩ (kEnd [.tmp 2] Q) := by
    intro tm t1 hsz
    unfold fineB at hq
    rw [hsz, Bool.not_false, Bool.true_and] at hq
    simp only [fineRest, walk, WAct, natOf_int, natOf_lit, List.nil_append, List.cons_append, List.append_nil, if_true, if_false, reduceIte, Nat.reduceEqDiff, Nat.zero_add, Nat.reduceAdd, t1, a0, b0]
    refine once_wf hle.fresh (Nat.le_trans hN hle.le) (ds.move lo1) (by omega) fun h2 le2 => ?_
    have g2 := le2.get hle.fresh hg (by simp)
    obtain ⟨c0, c1, c2, d0, d1, d2⟩ := rd g2
    have le02 := hle.trans le2
    have lo2 := le02.lowLe hN
    simp only [walk, WAct, natOf_int, natOf_lit, List.nil_append, List.cons_append, List.append_nil, if_true, if_false, reduceIte, Nat.reduceEqDiff, Nat.zero_add, Nat.reduceAdd, t1]
    cases e1 : onceB x.spots with
    | false =>
      rw [e1, Bool.false_and, Bool.false_and] at hq
      simp only [walk, WAct, natOf_int, natOf_lit, List.nil_append, List.cons_append, List.append_nil, if_true, if_false, reduceIte, Nat.reduceEqDiff, Nat.zero_add, Nat.reduceAdd, Bool.not_false, t1]
      exact hq _ le02
    | true =>
      rw [e1, Bool.true_and] at hq
      simp only [walk, WAct, natOf_int, natOf_lit, List.nil_append, List.cons_append, List.append_nil, if_true, if_false, reduceIte, Nat.reduceEqDiff, Nat.zero_add, Nat.reduceAdd, Bool.not_true, t1, c0, d0]
      refine allInts_wf le2.fresh (Nat.le_trans hN le02.le) (ds.move lo2) (by omega) fun h3 le3 => ?_
      have g3 := le3.get le2.fresh g2 (by simp)
      obtain ⟨c0', c1', c2', d0', d1', d2'⟩ := rd g3
      have le03 := le02.trans le3
      have lo3 := le03.lowLe hN
      simp only [walk, WAct, natOf_int, natOf_lit, List.nil_append, List.cons_append, List.append_nil, if_true, if_false, reduceIte, Nat.reduceEqDiff, Nat.zero_add, Nat.reduceAdd, t1]
      cases e2 : x.spots.all fun a => belowB a 24 with
      | false =>
        rw [e2, Bool.false_and] at hq
        simp only [walk, WAct, natOf_int, natOf_lit, List.nil_append, List.cons_append, List.append_nil, if_true, if_false, reduceIte, Nat.reduceEqDiff, Nat.zero_add, Nat.reduceAdd, Bool.not_false, t1]
        exact hq _ le03
      | true =>
        rw [e2, Bool.true_and] at hq
        simp only [walk, WAct, natOf_int, natOf_lit, List.nil_append, List.cons_append, List.append_nil, if_true, if_false, reduceIte, Nat.reduceEqDiff, Nat.zero_add, Nat.reduceAdd, Bool.not_true, t1, c1', d1']
        refine each_wf le3.fresh (Nat.le_trans hN le03.le) (dq.move lo3) (by omega) fun v4 h4 le4 dv4 => ?_
        simp only [walk, WAct, natOf_int, natOf_lit, List.nil_append, List.cons_append, List.append_nil, if_true, if_false, reduceIte, Nat.reduceEqDiff, Nat.zero_add, Nat.reduceAdd, t1]
        refine once_wf le4.fresh (Nat.le_refl _) dv4 (by simp; omega) fun h5 le5 => ?_
        have g5 := (le4.trans le5).get le3.fresh g3 (by simp)
        have le05 := (le03.trans le4).trans le5
        have lo5 := le05.lowLe hN
        obtain ⟨c0, c1, c2, d0, d1, d2⟩ := rd g5
        simp only [walk, WAct, natOf_int, natOf_lit, List.nil_append, List.cons_append, List.append_nil, if_true, if_false, reduceIte, Nat.reduceEqDiff, Nat.zero_add, Nat.reduceAdd, t1]
        cases e3 : onceB (x.queues.map (·.chan)) with
        | false =>
          rw [e3, Bool.false_and] at hq
          simp only [walk, WAct, natOf_int, natOf_lit, List.nil_append, List.cons_append, List.append_nil, if_true, if_false, reduceIte, Nat.reduceEqDiff, Nat.zero_add, Nat.reduceAdd, Bool.not_false, t1]
          exact hq _ le05
        | true =>
          rw [e3, Bool.true_and] at hq
          -- the number of the process before
          have u6 : Le h5 (h5.new (.cells [.lit (.int .i64 0)])) := Upd.new le5.fresh _
          have s6 := store_ptr (off := 0) (n := 1) (xs := [int (-1)]) (H.get_new_self h5 (.cells [.lit (.int .i64 0)])) rfl (Nat.le_refl _) rfl rfl
          rw [show wr [V.lit (.int .i64 0)] 0 [int (-1)] = [int (-1)] from rfl] at s6
          have u7 : Le h5 ((h5.new (.cells [.lit (.int .i64 0)])).set h5.next (some (.cells [int (-1)]))) :=
            ⟨Nat.le_succ _, fun b hb _ => by rw [H.get_set, if_neg (by omega), H.get_new, if_neg (by omega)], (Le.toSet (S := fun _ => True) _ u6.fresh (H.get_new_self _ _) trivial).fresh⟩
          have hgL : ((h5.new (.cells [.lit (.int .i64 0)])).set h5.next (some (.cells [int (-1)]))).get h5.next = some (.cells [int (-1)]) := by rw [H.get_set, if_pos rfl]
          generalize ((h5.new (.cells [.lit (.int .i64 0)])).set h5.next (some (.cells [int (-1)]))) = h7 at s6 u7 hgL
          have g7 := u7.get le5.fresh g5 (by simp)
          have le07 := le05.trans u7
          have lo7 := le07.lowLe hN
          obtain ⟨c0, c1, c2, d0, d1, d2⟩ := rd g7
          have hce : V.cells (.lit (.int .i64 (-1))) = [int (-1)] := rfl
          simp only [walk, WAct, natOf_int, natOf_lit, List.nil_append, List.cons_append, List.append_nil, if_true, if_false, reduceIte, Nat.reduceEqDiff, Nat.zero_add, Nat.reduceAdd, Bool.not_true, t1, hce, s6, c1, d1]
          refine allQueues_wf u7.fresh (Nat.le_trans hN le07.le) (dq.move lo7) (by omega) m4 fun h8 le8 => ?_
          have g8 := le8.get u7.fresh g7 (by simp)
          have gL8 := le8.get u7.fresh hgL (by simp)
          have le08 := le07.trans le8
          have lo8 := le08.lowLe hN
          obtain ⟨c0, c1, c2, d0, d1, d2⟩ := rd g8
          simp only [walk, WAct, natOf_int, natOf_lit, List.nil_append, List.cons_append, List.append_nil, if_true, if_false, reduceIte, Nat.reduceEqDiff, Nat.zero_add, Nat.reduceAdd, t1]
          cases e4 : x.queues.all queueB with
          | false =>
            rw [e4, Bool.false_and] at hq
            simp only [walk, WAct, natOf_int, natOf_lit, List.nil_append, List.cons_append, List.append_nil, if_true, if_false, reduceIte, Nat.reduceEqDiff, Nat.zero_add, Nat.reduceAdd, t1]
            exact hq _ le08
          | true =>
            rw [e4, Bool.true_and] at hq
            simp only [walk, WAct, natOf_int, natOf_lit, List.nil_append, List.cons_append, List.append_nil, if_true, if_false, reduceIte, Nat.reduceEqDiff, Nat.zero_add, Nat.reduceAdd, t1, c2, d2]
            have hbx : h.next ≠ h5.next := by
              have := le5.fresh.lt g5; omega
            refine allWaits_wf le8.fresh (Nat.le_trans hN le08.le) gL8 g8 (Nat.le_trans hN le05.le) hbx (ds.move lo8) (dw.move lo8) (by omega) (by omega) m5 fun h9 u9 => ?_
            simp only [walk, WAct, natOf_int, natOf_lit, List.nil_append, List.cons_append, List.append_nil, if_true, if_false, reduceIte, Nat.reduceEqDiff, Nat.zero_add, Nat.reduceAdd, t1]
            refine hq h9 ⟨Nat.le_trans le08.le u9.le, fun b hb _ => ?_, u9.fresh⟩
            rw [u9.same b (Nat.lt_of_lt_of_le hb le08.le) (by have := le05.le; intro e; omega), le08.same b hb (by simp)]
  rw [f49_eq]
  simp only [walk, WAct, natOf_int, natOf_lit, List.nil_append, List.cons_append, List.append_nil, if_true, if_false, reduceIte, Nat.reduceEqDiff, Nat.zero_add, Nat.reduceAdd, hb, a0, a1, a2, b0, b1, b2, n0]
  have q0 : sizesB x = (decide ((x.spots.length : Int) < 1) || (decide ((24 : Int) < x.spots.length) || (decide ((60 : Int) < x.queues.length) || decide ((40 : Int) < x.waits.length)))) := by
    unfold sizesB
    congr 1
    · rw [decide_eq_decide]; omega
    · congr 1
      · rw [decide_eq_decide]; omega
      · congr 1 <;> (rw [decide_eq_decide]; omega)
  have hno : sizesB x = true → Q (.ok (bool false)) h1 := by
    intro hs
    have := hq h1 hle
    unfold fineB at this
    rwa [hs, Bool.not_true, Bool.false_and] at this
  cases e1 : decide ((x.spots.length : Int) < 1) with
  | true =>
    rw [e1, Bool.true_or] at q0
    simp only [walk, WAct, natOf_int, natOf_lit, List.nil_append, List.cons_append, List.append_nil, if_true, if_false, reduceIte, Nat.reduceEqDiff, Nat.zero_add, Nat.reduceAdd, a0, a1, a2, b0, b1, b2, n0, n1, n2]
    exact hno q0
  | false =>
    rw [e1, Bool.false_or] at q0
    simp only [walk, WAct, natOf_int, natOf_lit, List.nil_append, List.cons_append, List.append_nil, if_true, if_false, reduceIte, Nat.reduceEqDiff, Nat.zero_add, Nat.reduceAdd, a0, a1, a2, b0, b1, b2, n0, n1, n2]
    cases e2 : decide ((24 : Int) < x.spots.length) with
    | true =>
      rw [e2, Bool.true_or] at q0
      simp only [walk, WAct, natOf_int, natOf_lit, List.nil_append, List.cons_append, List.append_nil, if_true, if_false, reduceIte, Nat.reduceEqDiff, Nat.zero_add, Nat.reduceAdd, a0, a1, a2, b0, b1, b2, n0, n1, n2]
      exact hno q0
    | false =>
      rw [e2, Bool.false_or] at q0
      simp only [walk, WAct, natOf_int, natOf_lit, List.nil_append, List.cons_append, List.append_nil, if_true, if_false, reduceIte, Nat.reduceEqDiff, Nat.zero_add, Nat.reduceAdd, a0, a1, a2, b0, b1, b2, n0, n1, n2]
      cases e3 : decide ((60 : Int) < x.queues.length) with
      | true =>
        rw [e3, Bool.true_or] at q0
        simp only [walk, WAct, natOf_int, natOf_lit, List.nil_append, List.cons_append, List.append_nil, if_true, if_false, reduceIte, Nat.reduceEqDiff, Nat.zero_add, Nat.reduceAdd, a0, a1, a2, b0, b1, b2, n0, n1, n2]
        exact hno q0
      | false =>
        rw [e3, Bool.false_or] at q0
        simp only [walk, WAct, natOf_int, natOf_lit, List.nil_append, List.cons_append, List.append_nil, if_true, if_false, reduceIte, Nat.reduceEqDiff, Nat.zero_add, Nat.reduceAdd, a0, a1, a2, b0, b1, b2, n0, n1, n2]
        cases e4 : decide ((40 : Int) < x.waits.length) with
        | true =>
          rw [e4] at q0
          simp only [walk, WAct, natOf_int, natOf_lit, List.nil_append, List.cons_append, List.append_nil, if_true, if_false, reduceIte, Nat.reduceEqDiff, Nat.zero_add, Nat.reduceAdd, a0, a1, a2, b0, b1, b2, n0, n1, n2]
          exact hno q0
        | false =>
          rw [e4] at q0
          simp only [walk, WAct, natOf_int, natOf_lit, List.nil_append, List.cons_append, List.append_nil, if_true, if_false, reduceIte, Nat.reduceEqDiff, Nat.zero_add, Nat.reduceAdd]
          refine rest _ ?_ q0
          simp only [walk, WAct, natOf_int, natOf_lit, List.nil_append, List.cons_append, List.append_nil, if_true, if_false, reduceIte, Nat.reduceEqDiff, Nat.zero_add, Nat.reduceAdd]

end A
end Go.Proofs.YtcohlhplpogopaaGreat

