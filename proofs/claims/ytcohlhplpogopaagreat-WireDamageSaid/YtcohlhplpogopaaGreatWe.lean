/-
  package wire: the bytes of a parcel and of a letter. (No statement of the seat is proved here.)
-/
import Derived.Test.YtcohlhplpogopaaGreatWd
set_option linter.unusedSimpArgs false
set_option linter.unusedVariables false
namespace Go.Proofs.YtcohlhplpogopaaGreat
namespace A

def wqueue (d : WD) (q : PQ) : WD := q.queue.foldl (fun d l => wvals l d) (wnum q.queue.length (wname (3, q.chan) d))
def wwait (d : WD) (w : PW) : WD := wvals w.env (wnum w.node.toNat (wname (4, w.at') (wnum w.nth.toNat d)))
def wspots (l : List Int) (d : WD) : WD := l.foldl (fun d n => wname (4, n) d) (wnum l.length d)
def wqueues (l : List PQ) (d : WD) : WD := l.foldl wqueue (wnum l.length d)
def wwaits (l : List PW) (d : WD) : WD := l.foldl wwait (wnum l.length d)
def wparcel (x : PX) : WD := wwaits x.waits (wqueues x.queues (wspots x.spots ([], [])))
def wletter (l : PL) : WD := wvals l.vals (wname (3, l.chan) ([], []))
def bytesB (x : PX) : List UInt8 := endB 80 (wparcel x)
def letterB (l : PL) : List UInt8 := endB 77 (wletter l)

/-- a loop that writes what a list holds. -/
theorem WC_each {α : Type} {id0 id1 tc ti tn t' : Nat} {body : C} {l : List α} {f : WD → α → WD} {wt : α → Nat} {k : Nat} {P : Nat → Prop} {W : Nat} {h0 h : H} {d : WD} {tm : TM} (keep : List Nat) {Q : E → St → Prop}
    (hl : l.length ≤ 140737488355328) (hids : id0 ≠ id1 ∧ tc ≠ ti ∧ t' ≠ ti ∧ tc ≠ tn ∧ t' ≠ tn ∧ ti ≠ tn ∧ tc ∉ keep ∧ t' ∉ keep ∧ ti ∉ keep) (t0 : tm.nth ti = int 0) (t1 : tm.nth tn = int l.length) (g : WIn P W h0 h d) (hok : OKD d (k + (l.map wt).sum))
    (hstep : ∀ d k x, x ∈ l → OKD d (k + wt x) → OKD (f d x) k)
    (hbody : ∀ (i : Nat) x tm' h' d' k', l[i]? = some x → (∀ j, j ∈ keep → tm'.nth j = tm.nth j) → tm'.nth ti = int i → WIn P W h0 h' d' → OKD d' (k' + wt x) → ∀ Q' : E → St → Prop, (∀ tm'' h'', (∀ j, j ∈ ti :: tn :: keep → tm''.nth j = tm'.nth j) → WIn P W h0 h'' (f d' x) → Q' .nor ⟨tm'', [], h''⟩) → WC sp2 fs body ⟨tm', [], h'⟩ Q')
    (hq : ∀ tm' h', (∀ j, j ∈ keep → tm'.nth j = tm.nth j) → WIn P W h0 h' (l.foldl f d) → OKD (l.foldl f d) k → Q .nor ⟨tm', [], h'⟩) :
    WC sp2 fs (rangeLoop id0 id1 tc ti tn t' body) ⟨tm, [], h⟩ Q := by
  obtain ⟨i1, i2, i3, i4, i5, i6, i7, i8, i9⟩ := hids
  refine WC_range (N := l.length) (J := fun i st => st.tm.nth ti = int i ∧ st.tm.nth tn = int l.length ∧ (∀ j, j ∈ keep → st.tm.nth j = tm.nth j) ∧ st.df = [] ∧ WIn P W h0 st.h ((l.take i).foldl f d) ∧ OKD ((l.take i).foldl f d) (k + ((l.drop i).map wt).sum)) hl i1 ?_ ?_ ?_ ⟨i2, i3⟩ ?_ ?_
  · exact ⟨t0, t1, fun j hj => rfl, rfl, g, hok⟩
  · rintro i st ⟨h1, h2, _⟩; exact ⟨h1, h2⟩
  · rintro i ⟨tm', df, hh⟩ v ⟨h1, h2, h3, h4⟩
    refine ⟨?_, ?_, fun j hj => ?_, h4⟩
    · show (tm'.put tc v).nth ti = _
      rw [T.nth_put, if_neg (Ne.symm i2)]; exact h1
    · show (tm'.put tc v).nth tn = _
      rw [T.nth_put, if_neg (Ne.symm i4)]; exact h2
    · show (tm'.put tc v).nth j = _
      rw [T.nth_put, if_neg (fun e => i7 (by rw [← e]; exact hj))]; exact h3 j hj
  · rintro ⟨tm', df, hh⟩ ⟨h1, h2, h3, h4, h5, h6⟩
    simp only at h3 h4 h5
    subst h4
    rw [List.take_of_length_le (Nat.le_refl _)] at h5 h6
    refine hq tm' hh h3 h5 ?_
    rw [List.drop_of_length_le (Nat.le_refl _)] at h6
    exact h6
  · rintro i ⟨tm', df, hh⟩ hi ⟨h1, h2, h3, h4, h5, h6⟩
    simp only at h1 h2 h3 h4 h5
    subst h4
    have hx := List.getElem?_eq_getElem hi
    have hmem := List.getElem_mem hi
    rw [List.drop_eq_getElem_cons hi, List.map_cons, List.sum_cons] at h6
    generalize l[i] = x at hx hmem h6
    have h7 : OKD ((l.take i).foldl f d) (k + ((l.drop (i + 1)).map wt).sum + wt x) := by
      rw [show k + ((l.drop (i + 1)).map wt).sum + wt x = k + (wt x + ((l.drop (i + 1)).map wt).sum) from by omega]; exact h6
    refine hbody i x tm' hh _ _ hx h3 h1 h5 h7 _ fun tm'' h'' hs g' => ?_
    show tm''.nth ti = int i ∧ _
    have hsucc : (l.take (i + 1)).foldl f d = f ((l.take i).foldl f d) x := by rw [take_succ' hx, List.foldl_append]; rfl
    refine ⟨by rw [hs ti (by simp)]; exact h1, ?_, ?_, fun j hj => ?_, rfl, ?_, ?_⟩
    · show ((tm''.put t' _).put ti _).nth ti = _
      rw [T.nth_put, if_pos rfl]
    · show ((tm''.put t' _).put ti _).nth tn = _
      rw [T.nth_put, if_neg (Ne.symm i6), T.nth_put, if_neg (Ne.symm i5), hs tn (by simp)]; exact h2
    · show ((tm''.put t' _).put ti _).nth j = _
      rw [T.nth_put, if_neg (fun e => i9 (by rw [← e]; exact hj)), T.nth_put, if_neg (fun e => i8 (by rw [← e]; exact hj)), hs j (by simp [hj])]; exact h3 j hj
    · rw [hsucc]; exact g'
    · rw [hsucc]; exact hstep _ _ _ hmem h7

/- the parts of the code -/
def placeBody : C := .seq (.reg [⟨some 23, .idxA 1 (.t 19) (.t 21), none⟩, ⟨some 24, .load none (.t 23), none⟩, ⟨some 5, .mov (.t 24), none⟩]) (.reg [⟨some 25, .mov (.t 3), none⟩, ⟨some 26, .mov (.t 5), none⟩, ⟨some 27, .call (.c (.fn (.func 133) [] [])) [.t 25, .t 26], none⟩])
def msgBody : C := .seq (.reg [⟨some 55, .idxA 1 (.t 51) (.t 53), none⟩, ⟨some 56, .load (some 1) (.t 55), none⟩, ⟨some 9, .alloc [.lit (.slice none 0 0)], none⟩, ⟨none, .store 1 (.t 9) (.t 56), none⟩]) (.reg [⟨some 57, .mov (.t 3), none⟩, ⟨some 58, .fieldA 0 (.t 9), none⟩, ⟨some 59, .load none (.t 58), none⟩, ⟨some 60, .call (.c (.fn (.func 135) [] [])) [.t 57, .t 59], none⟩])
def queueBody : C :=
  .seq (.reg [⟨some 39, .idxA 2 (.t 35) (.t 37), none⟩, ⟨some 40, .load (some 2) (.t 39), none⟩, ⟨some 7, .alloc [.lit (.int .i64 0), .lit (.slice none 0 0)], none⟩, ⟨none, .store 2 (.t 7) (.t 40), none⟩])
    (.seq (.reg [⟨some 41, .mov (.t 3), none⟩, ⟨some 42, .fieldA 0 (.t 7), none⟩, ⟨some 43, .load none (.t 42), none⟩, ⟨some 44, .call (.c (.fn (.func 134) [] [])) [.t 41, .t 43], none⟩])
      (.seq (.reg [⟨some 45, .mov (.t 3), none⟩, ⟨some 46, .fieldA 1 (.t 7), none⟩, ⟨some 47, .load none (.t 46), none⟩, ⟨some 48, .len .slc (.t 47), none⟩, ⟨some 49, .call (.c (.fn (.func 132) [] [])) [.t 45, .t 48], none⟩])
        (.seq (.reg [⟨some 50, .fieldA 1 (.t 7), none⟩, ⟨some 51, .load none (.t 50), none⟩, ⟨some 52, .len .slc (.t 51), none⟩, ⟨some 53, .mov (.c (.lit (.int .i64 0))), none⟩]) (rangeLoop 4 5 54 53 52 61 msgBody))))
def waitBody : C :=
  .seq (.reg [⟨some 73, .idxA 4 (.t 69) (.t 71), none⟩, ⟨some 74, .load (some 4) (.t 73), none⟩, ⟨some 11, .alloc [.lit (.int .i64 0), .lit (.int .i64 0), .lit (.int .i64 0), .lit (.slice none 0 0)], none⟩, ⟨none, .store 4 (.t 11) (.t 74), none⟩])
    (.seq (.reg [⟨some 75, .mov (.t 3), none⟩, ⟨some 76, .fieldA 0 (.t 11), none⟩, ⟨some 77, .load none (.t 76), none⟩, ⟨some 78, .call (.c (.fn (.func 132) [] [])) [.t 75, .t 77], none⟩])
      (.seq (.reg [⟨some 79, .mov (.t 3), none⟩, ⟨some 80, .fieldA 1 (.t 11), none⟩, ⟨some 81, .fieldA 0 (.t 80), none⟩, ⟨some 82, .load none (.t 81), none⟩, ⟨some 83, .call (.c (.fn (.func 133) [] [])) [.t 79, .t 82], none⟩])
        (.seq (.reg [⟨some 84, .mov (.t 3), none⟩, ⟨some 85, .fieldA 1 (.t 11), none⟩, ⟨some 86, .fieldA 1 (.t 85), none⟩, ⟨some 87, .load none (.t 86), none⟩, ⟨some 88, .call (.c (.fn (.func 132) [] [])) [.t 84, .t 87], none⟩])
          (.reg [⟨some 89, .mov (.t 3), none⟩, ⟨some 90, .fieldA 1 (.t 11), none⟩, ⟨some 91, .fieldA 2 (.t 90), none⟩, ⟨some 92, .load none (.t 91), none⟩, ⟨some 93, .call (.c (.fn (.func 135) [] [])) [.t 89, .t 92], none⟩]))))
theorem f53_eq : f53 = ⟨97, [.tmp 2], none, .seq (.reg [⟨some 1, .box (.t 0), none⟩, ⟨some 2, .mov (.c (.lit (.string ⟨#[]⟩))), none⟩])
  (.seq (.reg [⟨some 12, .call (.c (.fn (.func 131) [] [])) [], none⟩, ⟨some 3, .mov (.t 12), none⟩])
  (.seq (.reg [⟨some 13, .mov (.t 3), none⟩, ⟨some 14, .fieldA 0 (.t 1), none⟩, ⟨some 15, .load none (.t 14), none⟩, ⟨some 16, .len .slc (.t 15), none⟩, ⟨some 17, .call (.c (.fn (.func 132) [] [])) [.t 13, .t 16], none⟩])
  (.seq (.seq (.reg [⟨some 18, .fieldA 0 (.t 1), none⟩, ⟨some 19, .load none (.t 18), none⟩, ⟨some 20, .len .slc (.t 19), none⟩, ⟨some 21, .mov (.c (.lit (.int .i64 0))), none⟩]) (rangeLoop 0 1 22 21 20 28 placeBody))
  (.seq (.reg [⟨some 29, .mov (.t 3), none⟩, ⟨some 30, .fieldA 1 (.t 1), none⟩, ⟨some 31, .load none (.t 30), none⟩, ⟨some 32, .len .slc (.t 31), none⟩, ⟨some 33, .call (.c (.fn (.func 132) [] [])) [.t 29, .t 32], none⟩])
  (.seq (.seq (.reg [⟨some 34, .fieldA 1 (.t 1), none⟩, ⟨some 35, .load none (.t 34), none⟩, ⟨some 36, .len .slc (.t 35), none⟩, ⟨some 37, .mov (.c (.lit (.int .i64 0))), none⟩]) (rangeLoop 2 3 38 37 36 62 queueBody))
  (.seq (.reg [⟨some 63, .mov (.t 3), none⟩, ⟨some 64, .fieldA 2 (.t 1), none⟩, ⟨some 65, .load none (.t 64), none⟩, ⟨some 66, .len .slc (.t 65), none⟩, ⟨some 67, .call (.c (.fn (.func 132) [] [])) [.t 63, .t 66], none⟩])
  (.seq (.seq (.reg [⟨some 68, .fieldA 2 (.t 1), none⟩, ⟨some 69, .load none (.t 68), none⟩, ⟨some 70, .len .slc (.t 69), none⟩, ⟨some 71, .mov (.c (.lit (.int .i64 0))), none⟩]) (rangeLoop 6 7 72 71 70 94 waitBody))
  (.seq (.reg [⟨some 95, .mov (.t 3), none⟩, ⟨some 96, .call (.c (.fn (.func 136) [] [])) [.t 95, .c (.lit (.int .u8 80))], none⟩, ⟨some 2, .mov (.t 96), none⟩]) .ret))))))))⟩ := rfl

section
variable {P : Nat → Prop} {W N : Nat} {h0 h : H} {d : WD} {k : Nat} {tm : TM} {p : V} {Q : E → St → Prop}

theorem place_step {n : Int} (g : WIn P W h0 h d) (hk : OKD d k) (t3 : tm.nth 3 = .ptr W 0) (h1 : idxAV 1 (tm.nth 19) (natOf (tm.nth 21)) h = some (p, h)) (h2 : h.at1 p = some (int n))
    (hq : ∀ tm' h', (∀ j, j ∈ [21, 20, 19, 3, 1] → tm'.nth j = tm.nth j) → WIn P W h0 h' (wname (4, n) d) → Q .nor ⟨tm', [], h'⟩) : WC sp2 fs placeBody ⟨tm, [], h⟩ Q := by
  simp only [placeBody, walk, WAct, natOf_int, natOf_lit, List.nil_append, List.cons_append, List.append_nil, if_true, if_false, reduceIte, Nat.reduceEqDiff, Nat.zero_add, Nat.reduceAdd, h1, h2, t3]
  refine place_in g hk fun h' g' => ?_
  simp only [walk, WAct, natOf_int, natOf_lit, List.nil_append, List.cons_append, List.append_nil, if_true, if_false, reduceIte, Nat.reduceEqDiff, Nat.zero_add, Nat.reduceAdd]
  refine hq _ _ (fun j hj => ?_) g'
  simp only [List.mem_cons, List.not_mem_nil, or_false] at hj
  rcases hj with rfl | rfl | rfl | rfl | rfl <;> simp only [walk, WAct, natOf_int, natOf_lit, List.nil_append, List.cons_append, List.append_nil, if_true, if_false, reduceIte, Nat.reduceEqDiff, Nat.zero_add, Nat.reduceAdd]

theorem msg_step {sv : V} {l : List Val} (g : WIn P W h0 h d) (hP : ∀ b, b < N → P b) (hd : DVals N h0 sv l) (hlen : l.length ≤ most) (hv : l.all valueB = true) (hk : OKD d (k + l.length + 1)) (t3 : tm.nth 3 = .ptr W 0) (h1 : idxAV 1 (tm.nth 51) (natOf (tm.nth 53)) h = some (p, h)) (h2 : h.at p 1 = some [sv])
    (hq : ∀ tm' h', (∀ j, j ∈ [53, 52, 51, 3, 1, 35, 36, 37] → tm'.nth j = tm.nth j) → WIn P W h0 h' (wvals l d) → Q .nor ⟨tm', [], h'⟩) : WC sp2 fs msgBody ⟨tm, [], h⟩ Q := by
  have hat : sv.atom = true := atom_slc hd.1.sl.nk
  obtain ⟨ha, s1, le1, ga, na⟩ := alloc_store (n := 1) (z := [.lit (.slice none 0 0)]) (c := [sv]) g.hf rfl rfl (by show cond sv.atom true false = true; rw [hat]; rfl) rfl
  have g1 := g.more le1 (by omega)
  have x0 := fieldAV_ptr (off := 0) (o := 0) ga
  have y0 := H.at1_ptr (off := 0) ga
  simp only [List.getElem?_cons_zero, Nat.zero_add] at x0 y0
  have hce : V.cells (.agg [sv]) = [sv] := rfl
  simp only [msgBody, walk, WAct, natOf_int, natOf_lit, List.nil_append, List.cons_append, List.append_nil, if_true, if_false, reduceIte, Nat.reduceEqDiff, Nat.zero_add, Nat.reduceAdd, h1, h2, hce, s1, x0, y0, t3]
  have hlow : Low N h0 ha := (g.low hP).trans fun b hb => le1.same b (by obtain ⟨s, _, _, _, g4⟩ := g; exact (g4 b (hP b hb)).1) (by simp)
  refine vals_in g1 (fun b hb => .inl (hP b hb)) (hd.move hlow) hlen hv hk fun h' g' => ?_
  simp only [walk, WAct, natOf_int, natOf_lit, List.nil_append, List.cons_append, List.append_nil, if_true, if_false, reduceIte, Nat.reduceEqDiff, Nat.zero_add, Nat.reduceAdd]
  refine hq _ _ (fun j hj => ?_) (g'.less fun b hb => ⟨.inl hb, ?_⟩)
  · simp only [List.mem_cons, List.not_mem_nil, or_false] at hj
    rcases hj with rfl | rfl | rfl | rfl | rfl | rfl | rfl | rfl <;> simp only [walk, WAct, natOf_int, natOf_lit, List.nil_append, List.cons_append, List.append_nil, if_true, if_false, reduceIte, Nat.reduceEqDiff, Nat.zero_add, Nat.reduceAdd]
  · obtain ⟨s, _, _, _, g4⟩ := g
    obtain ⟨q1, _, q3⟩ := g4 b hb
    rw [le1.same b q1 (by simp)]; exact q3

theorem WIn.old (g : WIn P W h0 h d) {h' : H} (hle : Le h h') {b : Nat} (hb : P b) : h'.get b = h0.get b := by
  obtain ⟨s, _, _, _, g4⟩ := g
  obtain ⟨q1, _, q3⟩ := g4 b hb
  rw [hle.same b q1 (by simp)]; exact q3

theorem sum_le {α : Type} {c : Nat} {wt : α → Nat} : ∀ {l : List α}, (∀ x, x ∈ l → wt x ≤ c) → (l.map wt).sum ≤ c * l.length
  | [], _ => by simp
  | x :: l, h => by
    have h1 := h x (List.mem_cons_self ..)
    have h2 := sum_le (l := l) fun y hy => h y (List.mem_cons_of_mem _ hy)
    rw [List.map_cons, List.sum_cons, List.length_cons, Nat.mul_add]
    omega
theorem messageB_and {l : List Val} (h : messageB l = true) : l.length ≤ 3 ∧ l.all valueB = true := by
  unfold messageB at h
  rw [Bool.and_eq_true] at h
  exact ⟨of_decide_eq_true h.1, h.2⟩
theorem queueB_and {q : PQ} (h : queueB q = true) : belowB q.chan 60 = true ∧ 1 ≤ q.queue.length ∧ q.queue.length ≤ 12 ∧ ∀ l, l ∈ q.queue → messageB l = true := by
  unfold queueB at h
  rw [Bool.and_eq_true, Bool.and_eq_true, Bool.and_eq_true] at h
  exact ⟨h.1, of_decide_eq_true h.2.1, of_decide_eq_true h.2.2.1, fun l hl => List.all_eq_true.1 h.2.2.2 l hl⟩
theorem nameB_chan {n : Int} (h : belowB n 60 = true) : nameB (3, n) = true := h
theorem nameB_place {n : Int} (h : belowB n 24 = true) : nameB (4, n) = true := h
theorem belowB_and {a b : Int} (h : belowB a b = true) : 0 ≤ a ∧ a < b := of_decide_eq_true h

theorem DMsgs.at {v : V} {q : List (List Val)} (hd : DMsgs N h v q) {i : Nat} {l : List Val} (hl : q[i]? = some l) : ∃ p sv, idxAV 1 v (some i) h = some (p, h) ∧ h.at p 1 = some [sv] ∧ DVals N h sv l := by
  obtain ⟨vs, hr, _, ha⟩ := hd
  obtain ⟨sv, h1, h2⟩ := ha.get hl
  obtain ⟨p, g1, g2, _⟩ := hr.idx (k := i) (c := [sv]) (by rw [List.getElem?_map, h1]; rfl)
  exact ⟨p, sv, g1, g2, h2⟩
theorem DQueues.at {v : V} {qs : List PQ} (hd : DQueues N h v qs) {i : Nat} {q : PQ} (hl : qs[i]? = some q) : ∃ p sv, idxAV 2 v (some i) h = some (p, h) ∧ h.at p 2 = some [int q.chan, sv] ∧ DMsgs N h sv q.queue := by
  obtain ⟨vs, hr, _, ha⟩ := hd
  obtain ⟨sv, h1, h2⟩ := ha.get hl
  obtain ⟨p, g1, g2, _⟩ := hr.idx (k := i) (encQ_get h1 hl)
  exact ⟨p, sv, g1, g2, h2⟩
theorem DWaits.at {v : V} {qs : List PW} (hd : DWaits N h v qs) {i : Nat} {w : PW} (hl : qs[i]? = some w) : ∃ p sv, idxAV 4 v (some i) h = some (p, h) ∧ h.at p 4 = some [int w.nth, int w.at', int w.node, sv] ∧ DVals N h sv w.env := by
  obtain ⟨vs, hr, _, ha⟩ := hd
  obtain ⟨sv, h1, h2⟩ := ha.get hl
  obtain ⟨p, g1, g2, _⟩ := hr.idx (k := i) (encW_get h1 hl)
  exact ⟨p, sv, g1, g2, h2⟩

theorem okd_queue {d : WD} {q : PQ} (hv : queueB q = true) (hk : OKD d (k + 50)) : OKD (wqueue d q) k := by
  obtain ⟨b1, b2, b3, b4⟩ := queueB_and hv
  have k2 := (hk.name (k := k + 49) (nameB_chan b1)).num (k := k + 48) (n := q.queue.length) (by omega)
  unfold wqueue
  generalize wnum q.queue.length (wname (3, q.chan) d) = d2 at k2 ⊢
  have k3 : OKD d2 (k + 4 * q.queue.length) := k2.mono (by omega)
  clear k2 hk b2 b3 b1 hv
  generalize q.queue = l at k3 b4
  induction l generalizing d2 with
  | nil => exact k3
  | cons x l ih =>
    obtain ⟨m1, m2⟩ := messageB_and (b4 x (List.mem_cons_self ..))
    rw [List.length_cons] at k3
    refine ih _ ?_ (fun y hy => b4 y (List.mem_cons_of_mem _ hy))
    exact OKD.vals (k := k + 4 * l.length) (k3.mono (by omega)) (by have : most = 1000000 := rfl; omega) m2

theorem queue_step {sv : V} {q : PQ} (g : WIn P W h0 h d) (hP : ∀ b, b < N → P b) (hd : DMsgs N h0 sv q.queue) (hv : queueB q = true) (hk : OKD d (k + 50)) (t3 : tm.nth 3 = .ptr W 0) (h1 : idxAV 2 (tm.nth 35) (natOf (tm.nth 37)) h = some (p, h)) (h2 : h.at p 2 = some [int q.chan, sv])
    (hq : ∀ tm' h', (∀ j, j ∈ [37, 36, 35, 3, 1] → tm'.nth j = tm.nth j) → WIn P W h0 h' (wqueue d q) → Q .nor ⟨tm', [], h'⟩) : WC sp2 fs queueBody ⟨tm, [], h⟩ Q := by
  obtain ⟨b1, b2, b3, b4⟩ := queueB_and hv
  have hm : most = 1000000 := rfl
  obtain ⟨ha, s1, le1, ga, na⟩ := alloc_store (n := 2) (z := [.lit (.int .i64 0), .lit (.slice none 0 0)]) (c := [int q.chan, sv]) g.hf rfl rfl (atoms2 rfl hd.atom) rfl
  have g1 := g.more le1 (by omega)
  have hlow : Low N h0 ha := (g.low hP).trans fun b hb => by rw [g.old le1 (hP b hb), g.get (hP b hb)]
  have hda := hd.move hlow
  have rd : ∀ {hh : H}, hh.get h.next = ha.get h.next → fieldAV 0 (.ptr h.next 0) hh = some (.ptr h.next 0, hh) ∧ fieldAV 1 (.ptr h.next 0) hh = some (.ptr h.next 1, hh) ∧ hh.at1 (.ptr h.next 0) = some (int q.chan) ∧ hh.at1 (.ptr h.next 1) = some sv := by
    intro hh e
    rw [ga] at e
    exact ⟨fieldAV_ptr (off := 0) (o := 0) e, by simpa using fieldAV_ptr (off := 0) (o := 1) e, by simpa using H.at1_ptr (off := 0) e, by simpa using H.at1_ptr (off := 1) e⟩
  obtain ⟨x0, x1, y0, y1⟩ := rd rfl
  have hce : V.cells (.agg [int q.chan, sv]) = [int q.chan, sv] := rfl
  simp only [queueBody, walk, WAct, natOf_int, natOf_lit, List.nil_append, List.cons_append, List.append_nil, if_true, if_false, reduceIte, Nat.reduceEqDiff, Nat.zero_add, Nat.reduceAdd, h1, h2, hce, s1, x0, y0, t3]
  refine channel_in g1 hk fun h2' g2 => ?_
  have k2 := hk.name (k := k + 49) (nameB_chan b1)
  obtain ⟨x02, x12, y02, y12⟩ := rd (g2.get (.inr rfl))
  have hl2 := (hda.move (g2.low fun b hb => .inl (hP b hb))).len
  simp only [walk, WAct, natOf_int, natOf_lit, List.nil_append, List.cons_append, List.append_nil, if_true, if_false, reduceIte, Nat.reduceEqDiff, Nat.zero_add, Nat.reduceAdd, x12, y12, hl2, t3]
  refine num_in g2 k2 (by omega) fun h3 g3 => ?_
  have k3 := k2.num (k := k + 48) (n := q.queue.length) (by omega)
  obtain ⟨x03, x13, y03, y13⟩ := rd (g3.get (.inr rfl))
  have hl3 := (hda.move (g3.low fun b hb => .inl (hP b hb))).len
  simp only [walk, WAct, natOf_int, natOf_lit, List.nil_append, List.cons_append, List.append_nil, if_true, if_false, reduceIte, Nat.reduceEqDiff, Nat.zero_add, Nat.reduceAdd, x13, y13, hl3]
  refine WC_each (l := q.queue) (f := fun d l => wvals l d) (wt := fun l => l.length + 1) (k := k) [51, 3, 1, 35, 36, 37] (by omega) (by decide) ?_ ?_ g3 (k3.mono ?_) ?_ ?_ ?_
  · simp only [walk, WAct, natOf_int, natOf_lit, List.nil_append, List.cons_append, List.append_nil, if_true, if_false, reduceIte, Nat.reduceEqDiff, Nat.zero_add, Nat.reduceAdd]
  · simp only [walk, WAct, natOf_int, natOf_lit, List.nil_append, List.cons_append, List.append_nil, if_true, if_false, reduceIte, Nat.reduceEqDiff, Nat.zero_add, Nat.reduceAdd]
  · have := sum_le (c := 4) (wt := fun l : List Val => l.length + 1) (l := q.queue) fun l hl => by have := (messageB_and (b4 l hl)).1; omega
    omega
  · intro d k x hx hh
    obtain ⟨m1, m2⟩ := messageB_and (b4 x hx)
    exact OKD.vals (k := k) hh (by omega) m2
  · intro i x tm' h' d' k' hx hs hi g' hk' Q' hq'
    obtain ⟨m1, m2⟩ := messageB_and (b4 x (List.mem_of_getElem? hx))
    obtain ⟨_, _, _, _⟩ := rd (g'.get (.inr rfl))
    obtain ⟨p', sv', e1, e2, e3⟩ := (hda.move (g'.low fun b hb => .inl (hP b hb))).at hx
    have e4 := (DMsgs.at hda hx)
    obtain ⟨p0, sv0, f1, f2, f3⟩ := e4
    refine msg_step (p := p') (sv := sv') (k := k') g' (fun b hb => .inl (hP b hb)) (e3.move fun b hb => ((g'.get (.inl (hP b hb))).symm)) (by omega) m2 hk' ?_ ?_ e2 fun tm'' h'' hs' g'' => hq' tm'' h'' hs' g''
    · rw [hs 3 (by simp)]; simp only [walk, WAct, natOf_int, natOf_lit, List.nil_append, List.cons_append, List.append_nil, if_true, if_false, reduceIte, Nat.reduceEqDiff, Nat.zero_add, Nat.reduceAdd, t3]
    · rw [hs 51 (by simp), hi, natOf_int]; simp only [walk, WAct, natOf_int, natOf_lit, List.nil_append, List.cons_append, List.append_nil, if_true, if_false, reduceIte, Nat.reduceEqDiff, Nat.zero_add, Nat.reduceAdd, e1]
  · intro tm' h' hs g' _
    refine hq tm' h' (fun j hj => ?_) (g'.less fun b hb => ⟨.inl hb, g.old le1 hb⟩)
    simp only [List.mem_cons, List.not_mem_nil, or_false] at hj
    rcases hj with rfl | rfl | rfl | rfl | rfl <;> (rw [hs _ (by simp)]; simp only [walk, WAct, natOf_int, natOf_lit, List.nil_append, List.cons_append, List.append_nil, if_true, if_false, reduceIte, Nat.reduceEqDiff, Nat.zero_add, Nat.reduceAdd])


/-- waits as they are in a fine parcel. -/
def WaitOK (w : PW) : Prop := (0 ≤ w.nth ∧ w.nth < 40) ∧ belowB w.at' 24 = true ∧ belowB w.node 60 = true ∧ w.env.all valueB = true ∧ w.env.length ≤ most

theorem okd_wait {d : WD} {w : PW} (hv : WaitOK w) (hk : OKD d (k + (4 + w.env.length))) : OKD (wwait d w) k := by
  obtain ⟨⟨b0, b1⟩, b2, b3, b4, b5⟩ := hv
  have b3' := belowB_and b3
  have k2 := ((OKD.num (k := k + (3 + w.env.length)) (n := w.nth.toNat) (hk.mono (by omega)) (by omega)).mono (j := k + (2 + w.env.length) + 1) (by omega)).name (nameB_place b2)
  have k3 := OKD.num (k := k + (1 + w.env.length)) (n := w.node.toNat) (k2.mono (by omega)) (by omega)
  exact OKD.vals (k := k) (k3.mono (by omega)) b5 b4

theorem wait_step {sv : V} {w : PW} (g : WIn P W h0 h d) (hP : ∀ b, b < N → P b) (hd : DVals N h0 sv w.env) (hv : WaitOK w) (hk : OKD d (k + (4 + w.env.length))) (t3 : tm.nth 3 = .ptr W 0) (h1 : idxAV 4 (tm.nth 69) (natOf (tm.nth 71)) h = some (p, h)) (h2 : h.at p 4 = some [int w.nth, int w.at', int w.node, sv])
    (hq : ∀ tm' h', (∀ j, j ∈ [71, 70, 69, 3, 1] → tm'.nth j = tm.nth j) → WIn P W h0 h' (wwait d w) → Q .nor ⟨tm', [], h'⟩) : WC sp2 fs waitBody ⟨tm, [], h⟩ Q := by
  obtain ⟨⟨b0, b1⟩, b2, b3, b4, b5⟩ := hv
  have b3' := belowB_and b3
  have hat : sv.atom = true := atom_slc hd.1.sl.nk
  obtain ⟨ha, s1, le1, ga, na⟩ := alloc_store (n := 4) (z := [.lit (.int .i64 0), .lit (.int .i64 0), .lit (.int .i64 0), .lit (.slice none 0 0)]) (c := [int w.nth, int w.at', int w.node, sv]) g.hf rfl rfl (by show cond sv.atom true false = true; rw [hat]; rfl) rfl
  have g1 := g.more le1 (by omega)
  have hlow : Low N h0 ha := (g.low hP).trans fun b hb => by rw [g.old le1 (hP b hb), g.get (hP b hb)]
  have hda := hd.move hlow
  have rd : ∀ {hh : H}, hh.get h.next = ha.get h.next → fieldAV 0 (.ptr h.next 0) hh = some (.ptr h.next 0, hh) ∧ fieldAV 1 (.ptr h.next 0) hh = some (.ptr h.next 1, hh) ∧ fieldAV 0 (.ptr h.next 1) hh = some (.ptr h.next 1, hh) ∧ fieldAV 1 (.ptr h.next 1) hh = some (.ptr h.next 2, hh) ∧ fieldAV 2 (.ptr h.next 1) hh = some (.ptr h.next 3, hh) ∧
      hh.at1 (.ptr h.next 0) = some (int w.nth) ∧ hh.at1 (.ptr h.next 1) = some (int w.at') ∧ hh.at1 (.ptr h.next 2) = some (int w.node) ∧ hh.at1 (.ptr h.next 3) = some sv := by
    intro hh e
    rw [ga] at e
    exact ⟨fieldAV_ptr (off := 0) (o := 0) e, by simpa using fieldAV_ptr (off := 0) (o := 1) e, fieldAV_ptr (off := 1) (o := 0) e, fieldAV_ptr (off := 1) (o := 1) e, fieldAV_ptr (off := 1) (o := 2) e, by simpa using H.at1_ptr (off := 0) e, by simpa using H.at1_ptr (off := 1) e, by simpa using H.at1_ptr (off := 2) e, by simpa using H.at1_ptr (off := 3) e⟩
  obtain ⟨x0, _, _, _, _, y0, _, _, _⟩ := rd rfl
  have hce : V.cells (.agg [int w.nth, int w.at', int w.node, sv]) = [int w.nth, int w.at', int w.node, sv] := rfl
  have e1 : int w.nth = int ((w.nth.toNat : Nat) : Int) := by rw [Int.toNat_of_nonneg b0]
  have e2 : int w.node = int ((w.node.toNat : Nat) : Int) := by rw [Int.toNat_of_nonneg b3'.1]
  simp only [waitBody, walk, WAct, natOf_int, natOf_lit, List.nil_append, List.cons_append, List.append_nil, if_true, if_false, reduceIte, Nat.reduceEqDiff, Nat.zero_add, Nat.reduceAdd, h1, h2, hce, s1, x0, y0, t3]
  rw [e1]
  refine num_in g1 hk (by omega) fun ha1 g2 => ?_
  have k1 := OKD.num (k := k + (3 + w.env.length)) (n := w.nth.toNat) (hk.mono (by omega)) (by omega)
  obtain ⟨_, x1, x2, _, _, _, y1, _, _⟩ := rd (g2.get (.inr rfl))
  simp only [walk, WAct, natOf_int, natOf_lit, List.nil_append, List.cons_append, List.append_nil, if_true, if_false, reduceIte, Nat.reduceEqDiff, Nat.zero_add, Nat.reduceAdd, x1, x2, y1, t3]
  refine place_in g2 k1 fun ha2 g3 => ?_
  have k2 := (k1.mono (j := k + (2 + w.env.length) + 1) (by omega)).name (nameB_place b2)
  obtain ⟨_, x1, _, x2, _, _, _, y1, _⟩ := rd (g3.get (.inr rfl))
  simp only [walk, WAct, natOf_int, natOf_lit, List.nil_append, List.cons_append, List.append_nil, if_true, if_false, reduceIte, Nat.reduceEqDiff, Nat.zero_add, Nat.reduceAdd, x1, x2, y1, t3]
  rw [e2]
  refine num_in g3 k2 (by omega) fun ha3 g4 => ?_
  have k3 := OKD.num (k := k + (1 + w.env.length)) (n := w.node.toNat) (k2.mono (by omega)) (by omega)
  obtain ⟨_, x1, _, _, x2, _, _, _, y1⟩ := rd (g4.get (.inr rfl))
  simp only [walk, WAct, natOf_int, natOf_lit, List.nil_append, List.cons_append, List.append_nil, if_true, if_false, reduceIte, Nat.reduceEqDiff, Nat.zero_add, Nat.reduceAdd, x1, x2, y1, t3]
  refine vals_in (k := k) g4 (fun b hb => .inl (hP b hb)) hda b5 b4 (k3.mono (by omega)) fun ha4 g5 => ?_
  simp only [walk, WAct, natOf_int, natOf_lit, List.nil_append, List.cons_append, List.append_nil, if_true, if_false, reduceIte, Nat.reduceEqDiff, Nat.zero_add, Nat.reduceAdd]
  refine hq _ _ (fun j hj => ?_) (g5.less fun b hb => ⟨.inl hb, g.old le1 hb⟩)
  simp only [List.mem_cons, List.not_mem_nil, or_false] at hj
  rcases hj with rfl | rfl | rfl | rfl | rfl <;> simp only [walk, WAct, natOf_int, natOf_lit, List.nil_append, List.cons_append, List.append_nil, if_true, if_false, reduceIte, Nat.reduceEqDiff, Nat.zero_add, Nat.reduceAdd]

end

end A
end Go.Proofs.YtcohlhplpogopaaGreat

namespace Go.Proofs.YtcohlhplpogopaaGreat
namespace A

structure FineX (x : PX) : Prop where
  spots : x.spots.length ≤ 24
  spot : ∀ a, a ∈ x.spots → belowB a 24 = true
  queues : x.queues.length ≤ 60
  queue : ∀ q, q ∈ x.queues → queueB q = true
  waits : x.waits.length ≤ 40
  wait : ∀ w, w ∈ x.waits → WaitOK w

theorem fine_of {x : PX} (h : fineB x = true) (hs : SmallX x) : FineX x := by
  unfold fineB at h
  simp only [Bool.and_eq_true, Bool.not_eq_true'] at h
  obtain ⟨h1, ⟨h2, h3⟩, h4, h5, h6⟩ := h
  unfold sizesB at h1
  simp only [Bool.or_eq_false_iff, decide_eq_false_iff_not] at h1
  obtain ⟨a1, a2, a3, a4⟩ := h1
  refine ⟨by omega, fun a ha => List.all_eq_true.1 h3 a ha, by omega, fun q hq => List.all_eq_true.1 h5 q hq, by omega, ?_⟩
  have hw : ∀ k, k < x.waits.length → waitAt x.spots x.waits k = true := by
    unfold waitsB at h6
    rw [List.all_eq_true] at h6
    exact fun k hk => h6 k (List.mem_range.2 hk)
  have key : ∀ k, k ≤ x.waits.length → -1 ≤ lastAt x.waits k ∧ ∀ j, j < k → ∀ w, x.waits[j]? = some w → WaitOK w := by
    intro k
    induction k with
    | zero => intro _; exact ⟨by unfold lastAt; rw [if_pos rfl]; decide, fun j hj => absurd hj (Nat.not_lt_zero _)⟩
    | succ k ih =>
      intro hk
      obtain ⟨i1, i2⟩ := ih (by omega)
      have hx := List.getElem?_eq_getElem (show k < x.waits.length by omega)
      have hmem := List.getElem_mem (show k < x.waits.length by omega)
      have hwk := hw k (by omega)
      unfold waitAt at hwk
      generalize x.waits[k] = w at hx hmem
      rw [hx] at hwk
      unfold waitB at hwk
      simp only [Option.getD_some, Bool.and_eq_true, decide_eq_true_eq] at hwk
      obtain ⟨⟨c1, c2⟩, c3, c4, c5⟩ := hwk
      refine ⟨?_, fun j hj w' hw' => ?_⟩
      · unfold lastAt
        rw [if_neg (by omega), Nat.add_sub_cancel, hx]
        show -1 ≤ w.nth
        omega
      · by_cases e : j = k
        · subst e
          rw [hx] at hw'
          cases hw'
          exact ⟨⟨by omega, c2⟩, List.all_eq_true.1 h3 _ c3, c4, c5, hs.env w hmem⟩
        · exact i2 j (by omega) w' hw'
  intro w hw'
  obtain ⟨j, hj⟩ := List.getElem?_of_mem hw'
  have hlt := (List.getElem?_eq_some_iff.1 hj).1
  exact (key (j + 1) hlt).2 j (Nat.lt_succ_self j) w hj

theorem okd_nil : OKD ([], []) 50000000000 := ⟨by unfold Room; simp, fun v hv => by cases hv⟩

theorem okd_spots : ∀ {l : List Int} {d : WD} {k : Nat}, (∀ a, a ∈ l → belowB a 24 = true) → OKD d (k + l.length) → OKD (l.foldl (fun d n => wname (4, n) d) d) k
  | [], _, _, _, h => h
  | a :: l, d, k, ha, h => okd_spots (l := l) (fun b hb => ha b (List.mem_cons_of_mem _ hb)) (OKD.name (k := k + l.length) h (nameB_place (ha a (List.mem_cons_self ..))))

theorem sum_one {α : Type} : ∀ l : List α, (l.map fun _ => 1).sum = l.length
  | [] => rfl
  | x :: l => by rw [List.map_cons, List.sum_cons, sum_one l, List.length_cons]; omega

/-- the writer's content behind each part. -/
theorem bytes_wf {N : Nat} {h : H} {Q : Ret → H → Prop} {v : V} {x : PX} (hf : HF h) (hN : N ≤ h.next) (hd : DParcel N h v x) (hx : FineX x) (hq : ∀ h', Le h h' → (bytesB x).length ≤ 100000000000 → Q (.ok (.lit (.string ⟨(bytesB x).toArray⟩))) h') : WF sp2 fs 53 [v] h Q := by
  obtain ⟨va, vb, vc, rfl, da, db, dc⟩ := hd
  have hm : most = 1000000 := rfl
  refine WF_enter (f := f53) rfl rfl rfl ?_
  rw [f53_eq]
  obtain ⟨h1, hb, hle, hg, hn1, _⟩ := boxed (l := [va, vb, vc]) hf (by show cond va.atom (cond vb.atom (cond vc.atom true false) false) false = true; rw [da.atom, db.atom, dc.atom]; rfl)
  simp only [walk, WAct, natOf_int, natOf_lit, List.nil_append, List.cons_append, List.append_nil, if_true, if_false, reduceIte, Nat.reduceEqDiff, Nat.zero_add, Nat.reduceAdd, hb]
  refine write_wf hle.fresh fun h2 s le2 hnew hws => ?_
  have P0 : ∀ b, b < h1.next → b < h2.next ∧ ¬ s.has b ∧ h2.get b = h1.get b := fun b hb => ⟨Nat.lt_of_lt_of_le hb le2.le, fun hh => by have := hnew b hh; omega, le2.same b hb (by simp)⟩
  have g0 : WIn (fun b => b < h1.next) s.w h1 h2 ([], []) := ⟨s, hws, rfl, le2.fresh, P0⟩
  have hP : ∀ b, b < N → b < h1.next := fun b hb => by omega
  have hlow1 := hle.lowLe hN
  replace da := da.move hlow1
  replace db := db.move hlow1
  replace dc := dc.move hlow1
  have rd : ∀ {hh : H} {d : WD}, WIn (fun b => b < h1.next) s.w h1 hh d → fieldAV 0 (.ptr h.next 0) hh = some (.ptr h.next 0, hh) ∧ fieldAV 1 (.ptr h.next 0) hh = some (.ptr h.next 1, hh) ∧ fieldAV 2 (.ptr h.next 0) hh = some (.ptr h.next 2, hh) ∧ hh.at1 (.ptr h.next 0) = some va ∧ hh.at1 (.ptr h.next 1) = some vb ∧ hh.at1 (.ptr h.next 2) = some vc ∧
      cond (isNK .slc va) (lenV va hh) none = some (int x.spots.length, hh) ∧ cond (isNK .slc vb) (lenV vb hh) none = some (int x.queues.length, hh) ∧ cond (isNK .slc vc) (lenV vc hh) none = some (int x.waits.length, hh) := by
    intro hh d g
    have e := g.get (b := h.next) (by show h.next < h1.next; omega)
    rw [hg] at e
    exact ⟨fieldAV_ptr (off := 0) (o := 0) e, by simpa using fieldAV_ptr (off := 0) (o := 1) e, by simpa using fieldAV_ptr (off := 0) (o := 2) e, by simpa using H.at1_ptr (off := 0) e, by simpa using H.at1_ptr (off := 1) e, by simpa using H.at1_ptr (off := 2) e,
      (da.move (g.low hP)).len, (db.move (g.low hP)).len, (dc.move (g.low hP)).len⟩
  have hxs := hx.spots
  have hxq := hx.queues
  have hxw := hx.waits
  -- the places
  obtain ⟨x0, x1, x2, y0, y1, y2, l0, l1, l2⟩ := rd g0
  have k0 := okd_nil
  simp only [walk, WAct, natOf_int, natOf_lit, List.nil_append, List.cons_append, List.append_nil, if_true, if_false, reduceIte, Nat.reduceEqDiff, Nat.zero_add, Nat.reduceAdd, x0, y0, l0]
  refine num_in g0 k0 (by omega) fun h3 g1 => ?_
  have k1 := OKD.num (k := 49999999999) (n := x.spots.length) k0 (by omega)
  obtain ⟨x0, x1, x2, y0, y1, y2, l0, l1, l2⟩ := rd g1
  simp only [walk, WAct, natOf_int, natOf_lit, List.nil_append, List.cons_append, List.append_nil, if_true, if_false, reduceIte, Nat.reduceEqDiff, Nat.zero_add, Nat.reduceAdd, x0, y0, l0]
  refine WC_each (l := x.spots) (f := fun d n => wname (4, n) d) (wt := fun _ => 1) (k := 49999999900) [19, 3, 1] (by omega) (by decide) (by simp only [walk, WAct, natOf_int, natOf_lit, List.nil_append, List.cons_append, List.append_nil, if_true, if_false, reduceIte, Nat.reduceEqDiff, Nat.zero_add, Nat.reduceAdd]) (by simp only [walk, WAct, natOf_int, natOf_lit, List.nil_append, List.cons_append, List.append_nil, if_true, if_false, reduceIte, Nat.reduceEqDiff, Nat.zero_add, Nat.reduceAdd]) g1 (k1.mono (by rw [sum_one]; omega)) ?_ ?_ ?_
  · intro d k a ha hk
    exact hk.name (nameB_place (hx.spot a ha))
  · intro i a tm' h' d' k' ha hs hi g' hk' Q' hq'
    obtain ⟨p, e1, e2⟩ := (da.move (g'.low hP)).at ha
    refine place_step (n := a) g' hk' ?_ ?_ e2 fun tm'' h'' hs' g'' => hq' tm'' h'' hs' g''
    · rw [hs 3 (by simp)]; simp only [walk, WAct, natOf_int, natOf_lit, List.nil_append, List.cons_append, List.append_nil, if_true, if_false, reduceIte, Nat.reduceEqDiff, Nat.zero_add, Nat.reduceAdd]
    · rw [hs 19 (by simp), hi, natOf_int]; simp only [walk, WAct, natOf_int, natOf_lit, List.nil_append, List.cons_append, List.append_nil, if_true, if_false, reduceIte, Nat.reduceEqDiff, Nat.zero_add, Nat.reduceAdd, e1]
  rintro tm1 h4 hs1 g2 k2
  have t1 : tm1.nth 1 = .ptr h.next 0 := by rw [hs1 1 (by simp)]; simp only [walk, WAct, natOf_int, natOf_lit, List.nil_append, List.cons_append, List.append_nil, if_true, if_false, reduceIte, Nat.reduceEqDiff, Nat.zero_add, Nat.reduceAdd]
  have t3 : tm1.nth 3 = .ptr s.w 0 := by rw [hs1 3 (by simp)]; simp only [walk, WAct, natOf_int, natOf_lit, List.nil_append, List.cons_append, List.append_nil, if_true, if_false, reduceIte, Nat.reduceEqDiff, Nat.zero_add, Nat.reduceAdd]
  clear hs1
  -- the queues
  obtain ⟨x0, x1, x2, y0, y1, y2, l0, l1, l2⟩ := rd g2
  simp only [walk, WAct, natOf_int, natOf_lit, List.nil_append, List.cons_append, List.append_nil, if_true, if_false, reduceIte, Nat.reduceEqDiff, Nat.zero_add, Nat.reduceAdd, t1, t3, x1, y1, l1]
  refine num_in g2 k2 (by omega) fun h5 g3 => ?_
  have k3 := OKD.num (k := 49999999899) (n := x.queues.length) k2 (by omega)
  obtain ⟨x0, x1, x2, y0, y1, y2, l0, l1, l2⟩ := rd g3
  simp only [walk, WAct, natOf_int, natOf_lit, List.nil_append, List.cons_append, List.append_nil, if_true, if_false, reduceIte, Nat.reduceEqDiff, Nat.zero_add, Nat.reduceAdd, t1, t3, x1, y1, l1]
  refine WC_each (l := x.queues) (f := wqueue) (wt := fun _ => 50) (k := 49999990000) [35, 3, 1] (by omega) (by decide) (by simp only [walk, WAct, natOf_int, natOf_lit, List.nil_append, List.cons_append, List.append_nil, if_true, if_false, reduceIte, Nat.reduceEqDiff, Nat.zero_add, Nat.reduceAdd]) (by simp only [walk, WAct, natOf_int, natOf_lit, List.nil_append, List.cons_append, List.append_nil, if_true, if_false, reduceIte, Nat.reduceEqDiff, Nat.zero_add, Nat.reduceAdd]) g3 (k3.mono ?_) ?_ ?_ ?_
  · have := sum_le (c := 50) (wt := fun _ : PQ => 50) (l := x.queues) (fun _ _ => Nat.le_refl _)
    omega
  · intro d k q hq' hk
    exact okd_queue (hx.queue q hq') hk
  · intro i q tm' h' d' k' hi1 hs hi g' hk' Q' hq'
    obtain ⟨p, sv, e1, e2, e3⟩ := (db.move (g'.low hP)).at hi1
    refine queue_step (q := q) (k := k') g' hP (e3.move fun b hb => (g'.get (hP b hb)).symm) (hx.queue q (List.mem_of_getElem? hi1)) hk' ?_ ?_ e2 fun tm'' h'' hs' g'' => hq' tm'' h'' hs' g''
    · rw [hs 3 (by simp)]; simp only [walk, WAct, natOf_int, natOf_lit, List.nil_append, List.cons_append, List.append_nil, if_true, if_false, reduceIte, Nat.reduceEqDiff, Nat.zero_add, Nat.reduceAdd, t3]
    · rw [hs 35 (by simp), hi, natOf_int]; simp only [walk, WAct, natOf_int, natOf_lit, List.nil_append, List.cons_append, List.append_nil, if_true, if_false, reduceIte, Nat.reduceEqDiff, Nat.zero_add, Nat.reduceAdd, e1]
  rintro tm2 h6 hs2 g4 k4
  replace t1 : tm2.nth 1 = .ptr h.next 0 := by rw [hs2 1 (by simp)]; simp only [walk, WAct, natOf_int, natOf_lit, List.nil_append, List.cons_append, List.append_nil, if_true, if_false, reduceIte, Nat.reduceEqDiff, Nat.zero_add, Nat.reduceAdd, t1]
  replace t3 : tm2.nth 3 = .ptr s.w 0 := by rw [hs2 3 (by simp)]; simp only [walk, WAct, natOf_int, natOf_lit, List.nil_append, List.cons_append, List.append_nil, if_true, if_false, reduceIte, Nat.reduceEqDiff, Nat.zero_add, Nat.reduceAdd, t3]
  clear hs2
  -- the waits
  obtain ⟨x0, x1, x2, y0, y1, y2, l0, l1, l2⟩ := rd g4
  simp only [walk, WAct, natOf_int, natOf_lit, List.nil_append, List.cons_append, List.append_nil, if_true, if_false, reduceIte, Nat.reduceEqDiff, Nat.zero_add, Nat.reduceAdd, t1, t3, x2, y2, l2]
  refine num_in g4 k4 (by omega) fun h7 g5 => ?_
  have k5 := OKD.num (k := 49999989999) (n := x.waits.length) k4 (by omega)
  obtain ⟨x0, x1, x2, y0, y1, y2, l0, l1, l2⟩ := rd g5
  simp only [walk, WAct, natOf_int, natOf_lit, List.nil_append, List.cons_append, List.append_nil, if_true, if_false, reduceIte, Nat.reduceEqDiff, Nat.zero_add, Nat.reduceAdd, t1, t3, x2, y2, l2]
  refine WC_each (l := x.waits) (f := wwait) (wt := fun w => 4 + w.env.length) (k := 49959000000) [69, 3, 1] (by omega) (by decide) (by simp only [walk, WAct, natOf_int, natOf_lit, List.nil_append, List.cons_append, List.append_nil, if_true, if_false, reduceIte, Nat.reduceEqDiff, Nat.zero_add, Nat.reduceAdd]) (by simp only [walk, WAct, natOf_int, natOf_lit, List.nil_append, List.cons_append, List.append_nil, if_true, if_false, reduceIte, Nat.reduceEqDiff, Nat.zero_add, Nat.reduceAdd]) g5 (k5.mono ?_) ?_ ?_ ?_
  · have := sum_le (c := 1000004) (wt := fun w : PW => 4 + w.env.length) (l := x.waits) (fun w hw => by have := (hx.wait w hw).2.2.2.2; omega)
    omega
  · intro d k w hw hk
    exact okd_wait (hx.wait w hw) hk
  · intro i w tm' h' d' k' hi1 hs hi g' hk' Q' hq'
    obtain ⟨p, sv, e1, e2, e3⟩ := (dc.move (g'.low hP)).at hi1
    refine wait_step (w := w) (k := k') g' hP (e3.move fun b hb => (g'.get (hP b hb)).symm) (hx.wait w (List.mem_of_getElem? hi1)) hk' ?_ ?_ e2 fun tm'' h'' hs' g'' => hq' tm'' h'' hs' g''
    · rw [hs 3 (by simp)]; simp only [walk, WAct, natOf_int, natOf_lit, List.nil_append, List.cons_append, List.append_nil, if_true, if_false, reduceIte, Nat.reduceEqDiff, Nat.zero_add, Nat.reduceAdd, t3]
    · rw [hs 69 (by simp), hi, natOf_int]; simp only [walk, WAct, natOf_int, natOf_lit, List.nil_append, List.cons_append, List.append_nil, if_true, if_false, reduceIte, Nat.reduceEqDiff, Nat.zero_add, Nat.reduceAdd, e1]
  rintro tm3 h8 hs3 g6 k6
  replace t1 : tm3.nth 1 = .ptr h.next 0 := by rw [hs3 1 (by simp)]; simp only [walk, WAct, natOf_int, natOf_lit, List.nil_append, List.cons_append, List.append_nil, if_true, if_false, reduceIte, Nat.reduceEqDiff, Nat.zero_add, Nat.reduceAdd, t1]
  replace t3 : tm3.nth 3 = .ptr s.w 0 := by rw [hs3 3 (by simp)]; simp only [walk, WAct, natOf_int, natOf_lit, List.nil_append, List.cons_append, List.append_nil, if_true, if_false, reduceIte, Nat.reduceEqDiff, Nat.zero_add, Nat.reduceAdd, t3]
  clear hs3
  simp only [walk, WAct, natOf_int, natOf_lit, List.nil_append, List.cons_append, List.append_nil, if_true, if_false, reduceIte, Nat.reduceEqDiff, Nat.zero_add, Nat.reduceAdd, t3]
  change WIn _ _ _ _ (wparcel x) at g6
  change OKD (wparcel x) _ at k6
  have hlen := k6.1
  unfold Room at hlen
  obtain ⟨s', w1, w2, w3, w4⟩ := g6
  rw [← w2]
  have hpos : 0 < (wparcel x).2.length := by
    have grow : ∀ {α : Type} (f : WD → α → WD), (∀ d a, d.2.length ≤ (f d a).2.length) → ∀ (l : List α) (d : WD), d.2.length ≤ (l.foldl f d).2.length := by
      intro α f hf l
      induction l with
      | nil => intro d; exact Nat.le_refl _
      | cons a l ih => intro d; exact Nat.le_trans (hf d a) (ih _)
    have gn : ∀ n d, d.2.length ≤ (wnum n d).2.length := fun n d => by unfold wnum; simp
    have gm : ∀ v d, d.2.length ≤ (wname v d).2.length := fun n d => by unfold wname; simp
    have gv : ∀ v d, d.2.length ≤ (wval v d).2.length := fun n d => by
      unfold wval; split
      · exact gn _ _
      · simp
    have gvs : ∀ l d, d.2.length ≤ (wvals l d).2.length := fun l d => Nat.le_trans (gn _ _) (grow _ (fun d v => gv v d) l _)
    have gq : ∀ d q, d.2.length ≤ (wqueue d q).2.length := fun d q => Nat.le_trans (gm _ _) (Nat.le_trans (gn _ _) (grow _ (fun d l => gvs l d) _ _))
    have gw : ∀ d w, d.2.length ≤ (wwait d w).2.length := fun d w => Nat.le_trans (gn _ _) (Nat.le_trans (gm _ _) (Nat.le_trans (gn _ _) (gvs _ _)))
    have h0 : 0 < (wnum x.spots.length ([], [])).2.length := by unfold wnum; simp only [List.nil_append]; exact numB_pos _
    exact Nat.lt_of_lt_of_le h0 (Nat.le_trans (grow _ (fun d n => gm _ d) _ _) (Nat.le_trans (gn _ _) (Nat.le_trans (grow _ gq _ _) (Nat.le_trans (gn _ _) (grow _ gw _ _)))))
  refine end_wf (first := 80) w3 w1 k6.2 (by omega) hpos fun h9 le9 => ?_
  simp only [walk, WAct, natOf_int, natOf_lit, List.nil_append, List.cons_append, List.append_nil, if_true, if_false, reduceIte, Nat.reduceEqDiff, Nat.zero_add, Nat.reduceAdd]
  refine hq h9 ⟨?_, fun b hb _ => ?_, le9.fresh⟩ ?_
  · obtain ⟨q1, _, _⟩ := w4 h.next (by show h.next < h1.next; omega)
    have := le9.le
    omega
  · obtain ⟨q1, _, q3⟩ := w4 b (by show b < h1.next; omega)
    rw [le9.same b q1 (by simp), q3, hle.same b hb (by simp)]
  · unfold bytesB endB sealB headB
    have := numB_ten (n := (wparcel x).1.length) (by omega)
    have := names_length k6.2
    simp only [List.length_append, List.length_cons, sumB, List.length_nil]
    omega

end A
end Go.Proofs.YtcohlhplpogopaaGreat

namespace Go.Proofs.YtcohlhplpogopaaGreat
namespace A

/-- a string of bytes. -/
abbrev str (l : List UInt8) : V := .lit (.string ⟨l.toArray⟩)
theorem str_len (l : List UInt8) (h : H) : cond (isNK .str (str l)) (lenV (str l) h) none = some (int l.length, h) := by rfl

theorem letter_wf {N : Nat} {h : H} {Q : Ret → H → Prop} {v : V} {l : PL} (hf : HF h) (hN : N ≤ h.next) (hd : DLetter N h v l) (hx : properB l = true) (hq : ∀ h', Le h h' → (letterB l).length ≤ 100000000000 → Q (.ok (str (letterB l))) h') : WF sp2 fs 55 [v] h Q := by
  obtain ⟨va, rfl, da⟩ := hd
  have hm : most = 1000000 := rfl
  unfold properB at hx
  rw [Bool.and_eq_true] at hx
  obtain ⟨hx1, hx2⟩ := hx
  obtain ⟨m1, m2⟩ := messageB_and hx2
  refine WF_enter (f := f55) rfl rfl rfl ?_
  have hat : va.atom = true := atom_slc da.1.sl.nk
  obtain ⟨h1, hb, hle, hg, hn1, _⟩ := boxed (l := [int l.chan, va]) hf (atoms2 rfl hat)
  simp only [f55, walk, WAct, natOf_int, natOf_lit, List.nil_append, List.cons_append, List.append_nil, if_true, if_false, reduceIte, Nat.reduceEqDiff, Nat.zero_add, Nat.reduceAdd, hb]
  refine write_wf hle.fresh fun h2 s le2 hnew hws => ?_
  have P0 : ∀ b, b < h1.next → b < h2.next ∧ ¬ s.has b ∧ h2.get b = h1.get b := fun b hb => ⟨Nat.lt_of_lt_of_le hb le2.le, fun hh => by have := hnew b hh; omega, le2.same b hb (by simp)⟩
  have g0 : WIn (fun b => b < h1.next) s.w h1 h2 ([], []) := ⟨s, hws, rfl, le2.fresh, P0⟩
  have hP : ∀ b, b < N → b < h1.next := fun b hb => by omega
  replace da := da.move (hle.lowLe hN)
  have rd : ∀ {hh : H} {d : WD}, WIn (fun b => b < h1.next) s.w h1 hh d → fieldAV 0 (.ptr h.next 0) hh = some (.ptr h.next 0, hh) ∧ fieldAV 1 (.ptr h.next 0) hh = some (.ptr h.next 1, hh) ∧ hh.at1 (.ptr h.next 0) = some (int l.chan) ∧ hh.at1 (.ptr h.next 1) = some va := by
    intro hh d g
    have e := g.get (b := h.next) (by show h.next < h1.next; omega)
    rw [hg] at e
    exact ⟨fieldAV_ptr (off := 0) (o := 0) e, by simpa using fieldAV_ptr (off := 0) (o := 1) e, by simpa using H.at1_ptr (off := 0) e, by simpa using H.at1_ptr (off := 1) e⟩
  obtain ⟨x0, x1, y0, y1⟩ := rd g0
  simp only [walk, WAct, natOf_int, natOf_lit, List.nil_append, List.cons_append, List.append_nil, if_true, if_false, reduceIte, Nat.reduceEqDiff, Nat.zero_add, Nat.reduceAdd, x0, y0]
  refine channel_in g0 okd_nil fun h3 g1 => ?_
  have k1 := OKD.name (k := 49999999999) okd_nil (nameB_chan hx1)
  obtain ⟨x0, x1, y0, y1⟩ := rd g1
  simp only [walk, WAct, natOf_int, natOf_lit, List.nil_append, List.cons_append, List.append_nil, if_true, if_false, reduceIte, Nat.reduceEqDiff, Nat.zero_add, Nat.reduceAdd, x1, y1]
  refine vals_in (k := 49999999000) g1 hP da (by omega) m2 (k1.mono (by omega)) fun h4 g2 => ?_
  have k2 := OKD.vals (k := 49999999000) (l := l.vals) (k1.mono (by omega)) (by omega) m2
  simp only [walk, WAct, natOf_int, natOf_lit, List.nil_append, List.cons_append, List.append_nil, if_true, if_false, reduceIte, Nat.reduceEqDiff, Nat.zero_add, Nat.reduceAdd]
  change WIn _ _ _ _ (wletter l) at g2
  change OKD (wletter l) _ at k2
  have hlen := k2.1
  unfold Room at hlen
  obtain ⟨s', w1, w2, w3, w4⟩ := g2
  rw [← w2]
  have hpos : 0 < (wletter l).2.length := by
    have gn : ∀ n d, 0 < (wnum n d).2.length := fun n d => by unfold wnum; have := numB_pos n; simp only [List.length_append]; omega
    have gv : ∀ v d, d.2.length ≤ (wval v d).2.length := fun n d => by
      unfold wval wnum; split <;> simp
    have gf : ∀ (l : List Val) (d : WD), d.2.length ≤ (l.foldl (fun d v => wval v d) d).2.length := by
      intro l
      induction l with
      | nil => intro d; exact Nat.le_refl _
      | cons a l ih => intro d; exact Nat.le_trans (gv a d) (ih _)
    exact Nat.lt_of_lt_of_le (gn _ _) (gf _ _)
  refine end_wf (first := 77) w3 w1 k2.2 (by omega) hpos fun h9 le9 => ?_
  simp only [walk, WAct, natOf_int, natOf_lit, List.nil_append, List.cons_append, List.append_nil, if_true, if_false, reduceIte, Nat.reduceEqDiff, Nat.zero_add, Nat.reduceAdd]
  refine hq h9 ⟨?_, fun b hb _ => ?_, le9.fresh⟩ ?_
  · obtain ⟨q1, _, _⟩ := w4 h.next (by show h.next < h1.next; omega)
    have := le9.le
    omega
  · obtain ⟨q1, _, q3⟩ := w4 b (by show b < h1.next; omega)
    rw [le9.same b q1 (by simp), q3, hle.same b hb (by simp)]
  · unfold letterB endB sealB headB
    have := numB_ten (n := (wletter l).1.length) (by omega)
    have := names_length k2.2
    simp only [List.length_append, List.length_cons, sumB, List.length_nil]
    omega

/-- what Bytes and Letter answer. -/
def bytesV (x : PX) : V := if fineB x then (if 80000 < (bytesB x).length then .tup [str [], int 3] else .tup [str (bytesB x), int 0]) else .tup [str [], int 2]
def letterV (l : PL) : V := if properB l then .tup [str (letterB l), int 0] else .tup [str [], int 2]

theorem Bytes_wf {N : Nat} {h : H} {Q : Ret → H → Prop} {v : V} {x : PX} (hf : HF h) (hN : N ≤ h.next) (hd : DParcel N h v x) (hs : SmallX x) (hq : ∀ h', Le h h' → Q (.ok (bytesV x)) h') : WF sp2 fs 17 [v] h Q := by
  obtain ⟨va, vb, vc, rfl, da, db, dc⟩ := hd
  refine WF_enter (f := f17) rfl rfl rfl ?_
  obtain ⟨h1, hb, hle, hg, hn1, _⟩ := boxed (l := [va, vb, vc]) hf (by show cond va.atom (cond vb.atom (cond vc.atom true false) false) false = true; rw [da.atom, db.atom, dc.atom]; rfl)
  have hl1 := hle.lowLe hN
  have hd1 : DParcel N h1 (.agg [va, vb, vc]) x := ⟨va, vb, vc, rfl, da.move hl1, db.move hl1, dc.move hl1⟩
  have rd : ∀ {hh : H}, Le h1 hh → hh.at (.ptr h.next 0) 3 = some [va, vb, vc] := fun hle' => by
    have := H.at_ptr (off := 0) (n := 3) (hle'.get hle.fresh hg (by simp)) (Nat.le_refl _)
    exact this
  have r0 := rd (Upd.refl hle.fresh)
  simp only [f17, walk, WAct, natOf_int, natOf_lit, List.nil_append, List.cons_append, List.append_nil, if_true, if_false, reduceIte, Nat.reduceEqDiff, Nat.zero_add, Nat.reduceAdd, hb, r0]
  refine fine_wf hle.fresh (Nat.le_trans hN hle.le) hd1 hs fun h2 le2 => ?_
  simp only [walk, WAct, natOf_int, natOf_lit, List.nil_append, List.cons_append, List.append_nil, if_true, if_false, reduceIte, Nat.reduceEqDiff, Nat.zero_add, Nat.reduceAdd]
  cases hfx : fineB x with
  | false =>
    simp only [Bool.not_false, walk, WAct, natOf_int, natOf_lit, List.nil_append, List.cons_append, List.append_nil, if_true, if_false, reduceIte, Nat.reduceEqDiff, Nat.zero_add, Nat.reduceAdd]
    have := hq h2 (hle.trans le2)
    unfold bytesV at this
    rw [hfx] at this
    exact this
  | true =>
    have r2 := rd le2
    simp only [Bool.not_true, walk, WAct, natOf_int, natOf_lit, List.nil_append, List.cons_append, List.append_nil, if_true, if_false, reduceIte, Nat.reduceEqDiff, Nat.zero_add, Nat.reduceAdd, r2]
    refine bytes_wf le2.fresh (Nat.le_trans hN (Nat.le_trans hle.le le2.le)) (hd1.move (le2.lowLe (Nat.le_trans hN hle.le))) (fine_of hfx hs) fun h3 le3 _ => ?_
    have hfin := hq h3 ((hle.trans le2).trans le3)
    unfold bytesV at hfin
    rw [hfx, if_pos rfl] at hfin
    have hsl := str_len (bytesB x) h3
    simp only [walk, WAct, natOf_int, natOf_lit, List.nil_append, List.cons_append, List.append_nil, if_true, if_false, reduceIte, Nat.reduceEqDiff, Nat.zero_add, Nat.reduceAdd, hsl]
    by_cases e : 80000 < (bytesB x).length
    · have e1 : decide ((80000 : Int) < ((bytesB x).length : Int)) = true := by simp; omega
      rw [if_pos e] at hfin
      simp only [e1, walk, WAct, natOf_int, natOf_lit, List.nil_append, List.cons_append, List.append_nil, if_true, if_false, reduceIte, Nat.reduceEqDiff, Nat.zero_add, Nat.reduceAdd]
      exact hfin
    · have e1 : decide ((80000 : Int) < ((bytesB x).length : Int)) = false := by simp; omega
      rw [if_neg e] at hfin
      simp only [e1, walk, WAct, natOf_int, natOf_lit, List.nil_append, List.cons_append, List.append_nil, if_true, if_false, reduceIte, Nat.reduceEqDiff, Nat.zero_add, Nat.reduceAdd]
      exact hfin

theorem Letter_wf {N : Nat} {h : H} {Q : Ret → H → Prop} {v : V} {l : PL} (hf : HF h) (hN : N ≤ h.next) (hd : DLetter N h v l) (hlen : l.vals.length ≤ most) (hq : ∀ h', Le h h' → Q (.ok (letterV l)) h') : WF sp2 fs 18 [v] h Q := by
  obtain ⟨va, rfl, da⟩ := hd
  refine WF_enter (f := f18) rfl rfl rfl ?_
  have hat : va.atom = true := atom_slc da.1.sl.nk
  obtain ⟨h1, hb, hle, hg, hn1, _⟩ := boxed (l := [int l.chan, va]) hf (atoms2 rfl hat)
  have hd1 : DLetter N h1 (.agg [int l.chan, va]) l := ⟨va, rfl, da.move (hle.lowLe hN)⟩
  have rd : ∀ {hh : H}, Le h1 hh → hh.at (.ptr h.next 0) 2 = some [int l.chan, va] := fun hle' => by
    have := H.at_ptr (off := 0) (n := 2) (hle'.get hle.fresh hg (by simp)) (Nat.le_refl _)
    exact this
  have r0 := rd (Upd.refl hle.fresh)
  simp only [f18, walk, WAct, natOf_int, natOf_lit, List.nil_append, List.cons_append, List.append_nil, if_true, if_false, reduceIte, Nat.reduceEqDiff, Nat.zero_add, Nat.reduceAdd, hb, r0]
  refine proper_wf hle.fresh (Nat.le_trans hN hle.le) hd1 hlen fun h2 le2 => ?_
  simp only [walk, WAct, natOf_int, natOf_lit, List.nil_append, List.cons_append, List.append_nil, if_true, if_false, reduceIte, Nat.reduceEqDiff, Nat.zero_add, Nat.reduceAdd]
  cases hfx : properB l with
  | false =>
    simp only [Bool.not_false, walk, WAct, natOf_int, natOf_lit, List.nil_append, List.cons_append, List.append_nil, if_true, if_false, reduceIte, Nat.reduceEqDiff, Nat.zero_add, Nat.reduceAdd]
    have := hq h2 (hle.trans le2)
    unfold letterV at this
    rw [hfx] at this
    exact this
  | true =>
    have r2 := rd le2
    simp only [Bool.not_true, walk, WAct, natOf_int, natOf_lit, List.nil_append, List.cons_append, List.append_nil, if_true, if_false, reduceIte, Nat.reduceEqDiff, Nat.zero_add, Nat.reduceAdd, r2]
    refine letter_wf le2.fresh (Nat.le_trans hN (Nat.le_trans hle.le le2.le)) (hd1.move (le2.lowLe (Nat.le_trans hN hle.le))) hfx fun h3 le3 _ => ?_
    have hfin := hq h3 ((hle.trans le2).trans le3)
    unfold letterV at hfin
    rw [hfx, if_pos rfl] at hfin
    simp only [walk, WAct, natOf_int, natOf_lit, List.nil_append, List.cons_append, List.append_nil, if_true, if_false, reduceIte, Nat.reduceEqDiff, Nat.zero_add, Nat.reduceAdd]
    exact hfin

end A
end Go.Proofs.YtcohlhplpogopaaGreat

