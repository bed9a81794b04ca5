/-
  package wire: small functions, data. (No statement of the seat is proved here.)
-/
import Derived.Test.YtcohlhplpogopaaGreatGg
import Derived.Test.YtcohlhplpogopaaGreatWorks
set_option linter.unusedSimpArgs false
set_option linter.unusedVariables false
namespace Go.Proofs.YtcohlhplpogopaaGreat
namespace A

/-- functions whose contracts are proved apart: slices.Insert, works(). -/
noncomputable def sp2 : Sp := fun id => cond (Nat.beq id 51) (some insert1) (cond (Nat.beq id 9) (some (constG (.bool true))) none)

theorem sp2_ok (m : World) : SpOK Tryz.prog m sp2 := by
  intro id g hg
  have h' : cond (Nat.beq id 51) (some insert1) (cond (Nat.beq id 9) (some (constG (.bool true))) none) = some g := hg
  cases h1 : Nat.beq id 51 with
  | true =>
    rw [h1] at h'
    obtain rfl := Nat.eq_of_beq_eq_true h1
    cases h'
    exact insert1_ok m
  | false =>
    rw [h1] at h'
    obtain ⟨h2, h3⟩ := condN_some (show cond (Nat.beq id 9) (some (constG (.bool true))) none = some g from h')
    obtain rfl := Nat.eq_of_beq_eq_true h2
    cases h3
    refine const_ok ?_ works_calls
    have hf : ∃ fn, Tryz.prog.funcs[9]? = some fn ∧ compF Tryz.prog fn = some f9 := ⟨_, Tryz.func9, c9⟩
    obtain ⟨fn, h4, h5⟩ := hf
    exact compF_enters h4 h5

theorem works_wf {h : H} {Q : Ret → H → Prop} (hq : Q (.ok (bool true)) h) : WF sp2 fs 9 [] h Q := WF_sp (g := constG (.bool true)) rfl rfl hq

theorem below_wf {a b : Int} {h : H} {Q : Ret → H → Prop} (hq : Q (.ok (bool (decide (0 ≤ a ∧ a < b)))) h) : WF sp2 fs 43 [int a, int b] h Q := by
  refine WF_enter (f := f43) rfl rfl rfl ?_
  simp only [f43, walk, WAct, natOf_int, natOf_lit, List.nil_append, List.cons_append, List.append_nil, if_true, if_false, reduceIte, Nat.reduceEqDiff, Nat.zero_add, Nat.reduceAdd]
  by_cases h1 : 0 ≤ a
  · simp only [h1, decide_true, walk, WAct, natOf_int, natOf_lit, List.nil_append, List.cons_append, List.append_nil, if_true, if_false, reduceIte, Nat.reduceEqDiff, Nat.zero_add, Nat.reduceAdd]
    simpa [h1] using hq
  · simp only [h1, decide_false, walk, WAct, natOf_int, natOf_lit, List.nil_append, List.cons_append, List.append_nil, if_true, if_false, reduceIte, Nat.reduceEqDiff, Nat.zero_add, Nat.reduceAdd]
    simpa [h1] using hq

end A
end Go.Proofs.YtcohlhplpogopaaGreat

namespace Go.Proofs.YtcohlhplpogopaaGreat
namespace A

def idxBody (es : Nat) (ld : Option Nat) : C :=
  .seq (.reg [⟨some 10, .mov (.t 8), none⟩, ⟨some 5, .mov (.t 10), none⟩])
    (.seq (.reg [⟨some 11, .mov (.t 1), none⟩, ⟨some 12, .mov (.t 0), none⟩, ⟨some 13, .mov (.t 5), none⟩, ⟨some 14, .idxA es (.t 12) (.t 13), none⟩, ⟨some 15, .load ld (.t 14), none⟩, ⟨some 16, .call (.t 11) [.t 15], none⟩])
      (.cond (.t 16) (.seq (.reg [⟨some 17, .mov (.t 5), none⟩, ⟨some 4, .mov (.t 17), none⟩]) .ret) .skip))
def idxF (es : Nat) (ld : Option Nat) : F :=
  ⟨19, [.tmp 4], none, .seq (.reg [⟨some 4, .mov (.c (.lit (.int .i64 0))), none⟩])
    (.seq (.seq (.reg [⟨some 6, .mov (.t 0), none⟩, ⟨some 7, .len .slc (.t 6), none⟩, ⟨some 8, .mov (.c (.lit (.int .i64 0))), none⟩]) (rangeLoop 0 1 9 8 7 18 (idxBody es ld)))
      (.seq (.reg [⟨some 4, .mov (.c (.lit (.int .i64 (-1)))), none⟩]) .ret))⟩

/-- how an element is loaded. -/
def Elem (es : Nat) (ld : Option Nat) (cells : List V) (k : Nat) (v : V) : Prop :=
  (ld = none ∧ es = 1 ∧ cells[k]? = some v) ∨ (ld = some es ∧ v = .agg ((cells.drop (k * es)).take es))

theorem Elem.load {es : Nat} {ld : Option Nat} {cells : List V} {k : Nat} {v p : V} {h : H} (he : Elem es ld cells k v) (h1 : h.at p es = some ((cells.drop (k * es)).take es)) (h2 : es = 1 → h.at1 p = cells[k]?) : loadV ld p h = some (v, h) := by
  rcases he with ⟨rfl, rfl, h3⟩ | ⟨rfl, rfl⟩
  · rw [loadV_one, h2 rfl, h3]; rfl
  · rw [loadV_many, h1]; rfl

theorem idxF_wf {id : FuncId} {es : Nat} {ld : Option Nat} (hid : fs id = some (idxF es ld)) (hs : sp2 id = none) {s : V} {p : FuncId} {caps cells : List V} {len : Nat} {elem : Nat → V} (I B : Nat → H → Prop) {h : H} {Q : Ret → H → Prop}
    (hlen : len ≤ 140737488355328) (hsl : ∀ k h', I k h' → Sl h' es s cells len) (hld : ∀ k, k < len → Elem es ld cells k (elem k))
    (hcall : ∀ k h', k < len → I k h' → WF sp2 fs p (elem k :: caps) h' fun r h'' => ∃ b, r = .ok (bool b) ∧ (if b = true then B k h'' else I (k + 1) h''))
    (h0 : I 0 h) (hnone : ∀ h', I len h' → Q (.ok (int (-1))) h') (hsome : ∀ k h', k < len → B k h' → Q (.ok (int k)) h') : WF sp2 fs id [s, .fn (.func p) [] caps] h Q := by
  refine WF_enter (f := idxF es ld) hs hid rfl ?_
  have hl0 := (hsl 0 h h0).lenV
  simp only [idxF, walk, WAct, natOf_int, natOf_lit, List.nil_append, List.cons_append, List.append_nil, if_true, if_false, reduceIte, Nat.reduceEqDiff, Nat.zero_add, Nat.reduceAdd, hl0]
  refine WC_range (N := len) (J := fun k st => st.tm.nth 8 = int k ∧ st.tm.nth 7 = int len ∧ st.tm.nth 0 = s ∧ st.tm.nth 1 = .fn (.func p) [] caps ∧ st.df = [] ∧ I k st.h) hlen (by decide) ?_ ?_ ?_ (by decide) ?_ ?_
  · simp only [walk, WAct, natOf_int, natOf_lit, List.nil_append, List.cons_append, List.append_nil, if_true, if_false, reduceIte, Nat.reduceEqDiff, Nat.zero_add, Nat.reduceAdd]
    exact ⟨rfl, trivial, trivial, trivial, trivial, h0⟩
  · rintro k st ⟨h1, h2, _⟩; exact ⟨h1, h2⟩
  · rintro k ⟨tm, df, hh⟩ v ⟨h1, h2, h3, h4, h5, h6⟩
    simp only [walk, WAct, natOf_int, natOf_lit, List.nil_append, List.cons_append, List.append_nil, if_true, if_false, reduceIte, Nat.reduceEqDiff, Nat.zero_add, Nat.reduceAdd]
    exact ⟨h1, h2, h3, h4, h5, h6⟩
  · rintro ⟨tm, df, hh⟩ ⟨h1, h2, h3, h4, h5, h6⟩
    simp only at h5
    subst h5
    simp only [walk, WAct, natOf_int, natOf_lit, List.nil_append, List.cons_append, List.append_nil, if_true, if_false, reduceIte, Nat.reduceEqDiff, Nat.zero_add, Nat.reduceAdd]
    exact hnone _ h6
  · rintro k ⟨tm, df, hh⟩ hk ⟨h1, h2, h3, h4, h5, h6⟩
    simp only at h1 h2 h3 h4 h5 h6
    subst h5
    obtain ⟨q, g1, g2, g3⟩ := (hsl k hh h6).idx hk
    have g4 := (hld k hk).load g2 g3
    simp only [idxBody, walk, WAct, natOf_int, natOf_lit, List.nil_append, List.cons_append, List.append_nil, if_true, if_false, reduceIte, Nat.reduceEqDiff, Nat.zero_add, Nat.reduceAdd, h1, h2, h3, h4, g1, g4]
    refine WF.mono (hcall k hh hk h6) ?_
    rintro r h'' ⟨b, rfl, hb⟩
    simp only [walk, WAct, natOf_int, natOf_lit, List.nil_append, List.cons_append, List.append_nil, if_true, if_false, reduceIte, Nat.reduceEqDiff, Nat.zero_add, Nat.reduceAdd]
    cases b with
    | true =>
      rw [if_pos rfl] at hb
      simp only [walk, WAct, natOf_int, natOf_lit, List.nil_append, List.cons_append, List.append_nil, if_true, if_false, reduceIte, Nat.reduceEqDiff, Nat.zero_add, Nat.reduceAdd]
      exact hsome k _ hk hb
    | false =>
      rw [if_neg (by decide)] at hb
      simp only [walk, WAct, natOf_int, natOf_lit, List.nil_append, List.cons_append, List.append_nil, if_true, if_false, reduceIte, Nat.reduceEqDiff, Nat.zero_add, Nat.reduceAdd, h1, h2, h3, h4]
      exact ⟨trivial, trivial, trivial, trivial, trivial, trivial, hb⟩

end A
end Go.Proofs.YtcohlhplpogopaaGreat

namespace Go.Proofs.YtcohlhplpogopaaGreat
namespace A

def contF (idx : FuncId) : F :=
  ⟨9, [.tmp 4], none, .seq (.reg [⟨some 4, .mov (.c (.lit (.bool false))), none⟩])
    (.seq (.reg [⟨some 5, .mov (.t 0), none⟩, ⟨some 6, .mov (.t 1), none⟩, ⟨some 7, .call (.c (.fn (.func idx) [] [])) [.t 5, .t 6], none⟩, ⟨some 8, .ar .geq (.t 7) (.c (.lit (.int .i64 0))), none⟩, ⟨some 4, .mov (.t 8), none⟩]) .ret)⟩
def allF (clos cont : FuncId) : F :=
  ⟨9, [.tmp 4], none, .seq (.reg [⟨some 3, .box (.t 1), none⟩, ⟨some 4, .mov (.c (.lit (.bool false))), none⟩])
    (.seq (.reg [⟨some 5, .mov (.t 0), none⟩, ⟨some 6, .func (.func clos) [] [.t 3], none⟩, ⟨some 7, .call (.c (.fn (.func cont) [] [])) [.t 5, .t 6], none⟩, ⟨some 8, .not (.t 7), none⟩, ⟨some 4, .mov (.t 8), none⟩]) .ret)⟩
def closF1 : F :=
  ⟨8, [.tmp 3], none, .seq (.reg [⟨some 3, .mov (.c (.lit (.bool false))), none⟩])
    (.seq (.reg [⟨some 4, .load none (.t 1), none⟩, ⟨some 5, .mov (.t 0), none⟩, ⟨some 6, .call (.t 4) [.t 5], none⟩, ⟨some 7, .not (.t 6), none⟩, ⟨some 3, .mov (.t 7), none⟩]) .ret)⟩
def closFn (n : Nat) : F :=
  ⟨8, [.tmp 3], none, .seq (.reg [⟨some 2, .box (.t 0), none⟩, ⟨some 3, .mov (.c (.lit (.bool false))), none⟩])
    (.seq (.reg [⟨some 4, .load none (.t 1), none⟩, ⟨some 5, .load (some n) (.t 2), none⟩, ⟨some 6, .call (.t 4) [.t 5], none⟩, ⟨some 7, .not (.t 6), none⟩, ⟨some 3, .mov (.t 7), none⟩]) .ret)⟩

theorem boxL_fn (f : Fn) (a b : List V) (h : H) : boxL (V.cells (.fn f a b)) h = some (.ptr h.next 0, h.new (.cells [.fn f a b])) := rfl
theorem boxL_agg {l : List V} (hl : allAtoms l = true) (h : H) : boxL (V.cells (.agg l)) h = some (.ptr h.next 0, h.new (.cells l)) := boxL_ok hl

theorem contF_wf {id idx : FuncId} {es : Nat} {ld : Option Nat} (hid : fs id = some (contF idx)) (hs : sp2 id = none) (hidx : fs idx = some (idxF es ld)) (hsx : sp2 idx = none) {s : V} {p : FuncId} {caps cells : List V} {len : Nat} {elem : Nat → V} (I B : Nat → H → Prop)
    {h : H} {Q : Ret → H → Prop} (hlen : len ≤ 140737488355328) (hsl : ∀ k h', I k h' → Sl h' es s cells len) (hld : ∀ k, k < len → Elem es ld cells k (elem k))
    (hcall : ∀ k h', k < len → I k h' → WF sp2 fs p (elem k :: caps) h' fun r h'' => ∃ b, r = .ok (bool b) ∧ (if b = true then B k h'' else I (k + 1) h''))
    (h0 : I 0 h) (hnone : ∀ h', I len h' → Q (.ok (bool false)) h') (hsome : ∀ k h', k < len → B k h' → Q (.ok (bool true)) h') : WF sp2 fs id [s, .fn (.func p) [] caps] h Q := by
  refine WF_enter (f := contF idx) hs hid rfl ?_
  simp only [contF, walk, WAct, natOf_int, natOf_lit, List.nil_append, List.cons_append, List.append_nil, if_true, if_false, reduceIte, Nat.reduceEqDiff, Nat.zero_add, Nat.reduceAdd]
  refine idxF_wf (Q := _) hidx hsx I B hlen hsl hld hcall h0 ?_ ?_
  · intro h' hI
    simp only [walk, WAct, natOf_int, natOf_lit, List.nil_append, List.cons_append, List.append_nil, if_true, if_false, reduceIte, Nat.reduceEqDiff, Nat.zero_add, Nat.reduceAdd]
    exact hnone h' hI
  · intro k h' hk hB
    simp only [walk, WAct, natOf_int, natOf_lit, List.nil_append, List.cons_append, List.append_nil, if_true, if_false, reduceIte, Nat.reduceEqDiff, Nat.zero_add, Nat.reduceAdd]
    have : decide (0 ≤ (k : Int)) = true := by simp
    rw [this]
    exact hsome k h' hk hB

theorem closF1_wf {id : FuncId} (hid : fs id = some closF1) (hs : sp2 id = none) {v : V} {b : Nat} {p : FuncId} {caps : List V} {h : H} {Q : Ret → H → Prop} (hg : h.get b = some (.cells [.fn (.func p) [] caps]))
    (hw : WF sp2 fs p (v :: caps) h fun r h' => ∃ c, r = .ok (bool c) ∧ Q (.ok (bool (!c))) h') : WF sp2 fs id [v, .ptr b 0] h Q := by
  refine WF_enter (f := closF1) hs hid rfl ?_
  have h1 := H.at1_ptr (off := 0) hg
  simp only [List.getElem?_cons_zero] at h1
  simp only [closF1, walk, WAct, natOf_int, natOf_lit, List.nil_append, List.cons_append, List.append_nil, if_true, if_false, reduceIte, Nat.reduceEqDiff, Nat.zero_add, Nat.reduceAdd, h1]
  refine WF.mono hw ?_
  rintro r h' ⟨c, rfl, hq⟩
  simp only [walk, WAct, natOf_int, natOf_lit, List.nil_append, List.cons_append, List.append_nil, if_true, if_false, reduceIte, Nat.reduceEqDiff, Nat.zero_add, Nat.reduceAdd]
  exact hq

theorem closFn_wf {id : FuncId} {n : Nat} (hid : fs id = some (closFn n)) (hs : sp2 id = none) {l : List V} {b : Nat} {p : FuncId} {caps : List V} {h : H} {Q : Ret → H → Prop} (hf : HF h) (hg : h.get b = some (.cells [.fn (.func p) [] caps]))
    (hl : l.length = n) (ha : allAtoms l = true) (hw : WF sp2 fs p (.agg l :: caps) (h.new (.cells l)) fun r h' => ∃ c, r = .ok (bool c) ∧ Q (.ok (bool (!c))) h') : WF sp2 fs id [.agg l, .ptr b 0] h Q := by
  refine WF_enter (f := closFn n) hs hid rfl ?_
  have h1 := H.at1_ptr (off := 0) (H.get_new_old hf hg (.cells l))
  simp only [List.getElem?_cons_zero] at h1
  have h2 := H.at_ptr (off := 0) (n := n) (H.get_new_self h (.cells l)) (by omega)
  rw [List.drop_zero, List.take_of_length_le (by omega)] at h2
  simp only [closFn, walk, WAct, natOf_int, natOf_lit, List.nil_append, List.cons_append, List.append_nil, if_true, if_false, reduceIte, Nat.reduceEqDiff, Nat.zero_add, Nat.reduceAdd, h1, h2, boxL_agg ha]
  refine WF.mono hw ?_
  rintro r h' ⟨c, rfl, hq⟩
  simp only [walk, WAct, natOf_int, natOf_lit, List.nil_append, List.cons_append, List.append_nil, if_true, if_false, reduceIte, Nat.reduceEqDiff, Nat.zero_add, Nat.reduceAdd]
  exact hq

/-- what 'all' asks of its closure: the code of the four closures for structs, and of that for integers. -/
def ClosOK (clos : FuncId) (es : Nat) (ld : Option Nat) : Prop := sp2 clos = none ∧ ((fs clos = some closF1 ∧ ld = none) ∨ (fs clos = some (closFn es) ∧ ld = some es))

/-- 'all': the test leaves all but the objects S. -/
theorem all_wf {id clos cont idx : FuncId} {es : Nat} {ld : Option Nat} (hid : fs id = some (allF clos cont)) (hs : sp2 id = none) (hcl : ClosOK clos es ld) (hct : fs cont = some (contF idx)) (hsc : sp2 cont = none) (hidx : fs idx = some (idxF es ld)) (hsx : sp2 idx = none)
    {s : V} {p : FuncId} {caps cells : List V} {len : Nat} {elem : Nat → V} (S : Nat → Prop) (I B : Nat → H → Prop) {h : H} {Q : Ret → H → Prop} (hf : HF h) (hS : ∀ b, S b → b < h.next) (hlen : len ≤ 140737488355328) (hc : allAtoms cells = true)
    (hsl : ∀ k h', I k h' → Sl h' es s cells len) (hld : ∀ k, k < len → Elem es ld cells k (elem k)) (hI : ∀ k h' h'', I k h' → Le h' h'' → I k h'')
    (hcall : ∀ k h', k < len → HF h' → I k h' → WF sp2 fs p (elem k :: caps) h' fun r h'' => ∃ b, r = .ok (bool b) ∧ Upd S h' h'' ∧ (if b = true then I (k + 1) h'' else B k h''))
    (h0 : I 0 h) (hall : ∀ h', Upd S h h' → I len h' → Q (.ok (bool true)) h') (hnot : ∀ k h', k < len → Upd S h h' → B k h' → Q (.ok (bool false)) h') : WF sp2 fs id [s, .fn (.func p) [] caps] h Q := by
  refine WF_enter (f := allF clos cont) hs hid rfl ?_
  simp only [allF, walk, WAct, natOf_int, natOf_lit, List.nil_append, List.cons_append, List.append_nil, if_true, if_false, reduceIte, Nat.reduceEqDiff, Nat.zero_add, Nat.reduceAdd, boxL_fn]
  have hnew : Upd S h (h.new (.cells [.fn (.func p) [] caps])) := Upd.new hf _
  have hnS : ¬ S h.next := fun hh => by have := hS _ hh; omega
  have hcells : ∀ k, k < len → allAtoms ((cells.drop (k * es)).take es) = true := fun k _ => allAtoms_sub hc fun v hv => List.mem_of_mem_drop (List.mem_of_mem_take hv)
  refine contF_wf (es := es) (ld := ld) hct hsc hidx hsx (p := clos) (caps := [.ptr h.next 0]) (cells := cells) (len := len) (elem := elem) (fun k h' => I k h' ∧ Upd S (h.new (.cells [.fn (.func p) [] caps])) h') (fun k h' => B k h' ∧ Upd S (h.new (.cells [.fn (.func p) [] caps])) h')
    hlen (fun k h' hh => hsl k h' hh.1) hld ?_ ⟨hI _ _ _ h0 (Upd.new hf _), Upd.refl hnew.fresh⟩ ?_ ?_
  · rintro k h' hk ⟨g1, g2⟩
    have hget : h'.get h.next = some (.cells [.fn (.func p) [] caps]) := g2.get hnew.fresh (H.get_new_self _ _) hnS
    have done : ∀ {h1 : H}, Upd S h' h1 → I k h1 → WF sp2 fs p (elem k :: caps) h1 fun r h'' => ∃ c, r = .ok (bool c) ∧ ∃ b, Ret.ok (bool (!c)) = .ok (bool b) ∧ (if b = true then B k h'' ∧ Upd S (h.new (.cells [.fn (.func p) [] caps])) h'' else I (k + 1) h'' ∧ Upd S (h.new (.cells [.fn (.func p) [] caps])) h'') := by
      intro h1 hu hI1
      refine WF.mono (hcall k h1 hk hu.fresh hI1) ?_
      rintro r h'' ⟨b, rfl, g3, g4⟩
      refine ⟨b, rfl, !b, rfl, ?_⟩
      cases b with
      | true =>
        rw [if_pos rfl] at g4
        rw [if_neg (by decide)]; exact ⟨g4, (g2.trans hu).trans g3⟩
      | false =>
        rw [if_neg (by decide)] at g4
        rw [if_pos (by decide)]; exact ⟨g4, (g2.trans hu).trans g3⟩
    obtain ⟨hsl0, ⟨hcf, rfl⟩ | ⟨hcf, rfl⟩⟩ := hcl
    · exact closF1_wf hcf hsl0 hget (done (Upd.refl g2.fresh) g1)
    · have he : elem k = .agg ((cells.drop (k * es)).take es) := by
        rcases hld k hk with ⟨h1, _⟩ | ⟨_, h2⟩
        · cases h1
        · exact h2
      rw [he]
      have hlen2 : ((cells.drop (k * es)).take es).length = es := by
        have := (hsl k h' g1).length
        have hle : k * es + es ≤ len * es := by rw [← Nat.succ_mul]; exact Nat.mul_le_mul_right _ hk
        rw [List.length_take, List.length_drop]; omega
      refine closFn_wf hcf hsl0 g2.fresh hget hlen2 (hcells k hk) ?_
      have := done (Upd.new g2.fresh (.cells ((cells.drop (k * es)).take es))) (hI _ _ _ g1 (Upd.new g2.fresh _))
      rw [he] at this
      exact this
  · rintro h' ⟨g1, g2⟩
    simp only [walk, WAct, natOf_int, natOf_lit, List.nil_append, List.cons_append, List.append_nil, if_true, if_false, reduceIte, Nat.reduceEqDiff, Nat.zero_add, Nat.reduceAdd, Bool.not_false]
    exact hall h' (hnew.trans g2) g1
  · rintro k h' hk ⟨g1, g2⟩
    simp only [walk, WAct, natOf_int, natOf_lit, List.nil_append, List.cons_append, List.append_nil, if_true, if_false, reduceIte, Nat.reduceEqDiff, Nat.zero_add, Nat.reduceAdd, Bool.not_true]
    exact hnot k h' hk (hnew.trans g2) g1

end A
end Go.Proofs.YtcohlhplpogopaaGreat

namespace Go.Proofs.YtcohlhplpogopaaGreat
namespace A

/- plain data -/
abbrev Val := Int × Int
structure PQ where
  chan : Int
  queue : List (List Val)
structure PW where
  nth : Int
  at' : Int
  node : Int
  env : List Val
structure PX where
  spots : List Int
  queues : List PQ
  waits : List PW
structure PL where
  chan : Int
  vals : List Val

def belowB (a b : Int) : Bool := decide (0 ≤ a ∧ a < b)
def nameB (v : Val) : Bool := if v.1 = 2 then belowB v.2 12 else if v.1 = 3 then belowB v.2 60 else (decide (v.1 = 4) && belowB v.2 24)
def valueB (v : Val) : Bool := nameB v || (decide (v.1 = 1) && (decide (-1000000000 ≤ v.2) && decide (v.2 ≤ 1000000000)))
def messageB (l : List Val) : Bool := decide (l.length ≤ 3) && l.all valueB

/- rows of cells of one size -/
theorem flatten_length {es : Nat} : ∀ {L : List (List V)}, (∀ c, c ∈ L → c.length = es) → L.flatten.length = L.length * es
  | [], _ => by simp
  | c :: L, h => by
    rw [List.flatten_cons, List.length_append, h c (List.mem_cons_self ..), flatten_length fun d hd => h d (List.mem_cons_of_mem _ hd), List.length_cons, Nat.add_mul, Nat.one_mul, Nat.add_comm]

theorem chunk {es : Nat} : ∀ {L : List (List V)} {k : Nat} {c : List V}, (∀ c, c ∈ L → c.length = es) → L[k]? = some c → (L.flatten.drop (k * es)).take es = c
  | [], k, c, _, h => by simp at h
  | d :: L, 0, c, h, hk => by
    simp at hk; subst hk
    rw [Nat.zero_mul, List.drop_zero, List.flatten_cons, ← h d (List.mem_cons_self ..), List.take_left]
  | d :: L, k + 1, c, h, hk => by
    have hd := h d (List.mem_cons_self ..)
    rw [List.flatten_cons, Nat.add_mul, Nat.one_mul, Nat.add_comm (k * es), ← List.drop_drop, show (d ++ L.flatten).drop es = L.flatten from by rw [← hd, List.drop_left]]
    exact chunk (fun c hc => h c (List.mem_cons_of_mem _ hc)) (by simpa using hk)

structure Rows (h : H) (es : Nat) (v : V) (L : List (List V)) : Prop where
  sl : Sl h es v L.flatten L.length
  size : ∀ c, c ∈ L → c.length = es
  atoms : allAtoms L.flatten = true

/-- objects below a number are as they were. -/
def Low (N : Nat) (h h' : H) : Prop := ∀ b, b < N → h'.get b = h.get b
def SlB (N : Nat) (v : V) : Prop :=
  match v with
  | .slc b _ _ _ _ => b < N
  | _ => True
theorem SlB.keeps {N : Nat} {v : V} {h h' : H} (hb : SlB N v) (hl : Low N h h') : Keeps v h h' := by
  cases v <;> first | trivial | exact hl _ hb
theorem SlB.mono {N M : Nat} {v : V} (hb : SlB N v) (h : N ≤ M) : SlB M v := by
  cases v <;> first | trivial | exact Nat.lt_of_lt_of_le hb h
theorem Low.refl (N : Nat) (h : H) : Low N h h := fun _ _ => rfl
theorem Low.trans {N : Nat} {h h' h'' : H} (g : Low N h h') (g' : Low N h' h'') : Low N h h'' := fun b hb => (g' b hb).trans (g b hb)
theorem Low.mono {N M : Nat} {h h' : H} (g : Low N h h') (hm : M ≤ N) : Low M h h' := fun b hb => g b (Nat.lt_of_lt_of_le hb hm)
theorem Upd.low {S : Nat → Prop} {N : Nat} {h h' : H} (g : Upd S h h') (hN : N ≤ h.next) (hS : ∀ b, S b → N ≤ b) : Low N h h' := fun b hb => g.same b (Nat.lt_of_lt_of_le hb hN) fun hh => by have := hS b hh; omega
theorem Upd.lowLe {N : Nat} {h h' : H} (g : Le h h') (hN : N ≤ h.next) : Low N h h' := g.low hN fun b hb => hb.elim

theorem Rows.move {N es : Nat} {v : V} {L : List (List V)} {h h' : H} (r : Rows h es v L) (hb : SlB N v) (hl : Low N h h') : Rows h' es v L := ⟨r.sl.move (hb.keeps hl), r.size, r.atoms⟩
theorem Rows.idx {h : H} {es : Nat} {v : V} {L : List (List V)} (r : Rows h es v L) {k : Nat} {c : List V} (hk : L[k]? = some c) : ∃ p, idxAV es v (some k) h = some (p, h) ∧ h.at p es = some c ∧ (es = 1 → h.at1 p = c[0]?) := by
  have hlt : k < L.length := (List.getElem?_eq_some_iff.1 hk).1
  obtain ⟨p, g1, g2, g3⟩ := r.sl.idx hlt
  have hch := chunk r.size hk
  refine ⟨p, g1, by rw [g2, hch], fun h1 => ?_⟩
  rw [g3 h1]
  subst h1
  have : (L.flatten.drop (k * 1)).take 1 = c := hch
  rw [← this, List.getElem?_take, List.getElem?_drop, if_pos (by omega)]
  congr 1; omega
theorem Rows.elem {h : H} {es : Nat} {v : V} {L : List (List V)} (r : Rows h es v L) {k : Nat} (hk : k < L.length) : Elem es (some es) L.flatten k (.agg ((L[k]?).getD [])) := by
  right
  refine ⟨rfl, ?_⟩
  rw [List.getElem?_eq_getElem hk, chunk r.size (List.getElem?_eq_getElem hk)]; rfl
theorem flatten_single : ∀ l : List V, (l.map fun x => [x]).flatten = l
  | [] => rfl
  | x :: l => by rw [List.map_cons, List.flatten_cons, flatten_single l]; rfl
theorem Rows.elem1 {h : H} {v : V} {l : List V} (r : Rows h 1 v (l.map fun x => [x])) {k : Nat} (hk : k < l.length) : Elem 1 none (l.map fun x => [x]).flatten k ((l[k]?).getD undefV) := by
  left
  refine ⟨rfl, rfl, ?_⟩
  rw [flatten_single, List.getElem?_eq_getElem hk]; rfl

theorem atom_slc {v : V} (h : isNK .slc v = true) : v.atom = true := by
  cases v with
  | lit x => cases x <;> first | rfl | cases h
  | _ => first | rfl | cases h

/- data in memory -/
def encVal (v : Val) : List V := [int v.1, int v.2]
def DVals (N : Nat) (h : H) (v : V) (l : List Val) : Prop := Rows h 2 v (l.map encVal) ∧ SlB N v
def DInts (N : Nat) (h : H) (v : V) (l : List Int) : Prop := Rows h 1 v ((l.map int).map fun x => [x]) ∧ SlB N v
def All2 {α : Type} (R : V → α → Prop) : List V → List α → Prop
  | [], [] => True
  | v :: vs, x :: xs => R v x ∧ All2 R vs xs
  | _, _ => False
def DMsgs (N : Nat) (h : H) (v : V) (q : List (List Val)) : Prop := ∃ vs, Rows h 1 v (vs.map fun x => [x]) ∧ SlB N v ∧ All2 (DVals N h) vs q
def encQ : List V → List PQ → List (List V)
  | v :: vs, q :: qs => [int q.chan, v] :: encQ vs qs
  | _, _ => []
def DQueues (N : Nat) (h : H) (v : V) (qs : List PQ) : Prop := ∃ vs, Rows h 2 v (encQ vs qs) ∧ SlB N v ∧ All2 (fun v (q : PQ) => DMsgs N h v q.queue) vs qs
def encW : List V → List PW → List (List V)
  | v :: vs, w :: ws => [int w.nth, int w.at', int w.node, v] :: encW vs ws
  | _, _ => []
def DWaits (N : Nat) (h : H) (v : V) (ws : List PW) : Prop := ∃ vs, Rows h 4 v (encW vs ws) ∧ SlB N v ∧ All2 (fun v (w : PW) => DVals N h v w.env) vs ws
def DParcel (N : Nat) (h : H) (v : V) (x : PX) : Prop := ∃ a b c, v = .agg [a, b, c] ∧ DInts N h a x.spots ∧ DQueues N h b x.queues ∧ DWaits N h c x.waits
def DLetter (N : Nat) (h : H) (v : V) (x : PL) : Prop := ∃ a, v = .agg [int x.chan, a] ∧ DVals N h a x.vals

theorem All2.length {α : Type} {R : V → α → Prop} : ∀ {vs : List V} {xs : List α}, All2 R vs xs → vs.length = xs.length
  | [], [], _ => rfl
  | _ :: _, _ :: _, h => by simp [All2.length h.2]
theorem All2.imp {α : Type} {R R' : V → α → Prop} (hr : ∀ v x, R v x → R' v x) : ∀ {vs : List V} {xs : List α}, All2 R vs xs → All2 R' vs xs
  | [], [], _ => trivial
  | _ :: _, _ :: _, h => ⟨hr _ _ h.1, All2.imp hr h.2⟩
theorem All2.get {α : Type} {R : V → α → Prop} : ∀ {vs : List V} {xs : List α} {k : Nat} {x : α}, All2 R vs xs → xs[k]? = some x → ∃ v, vs[k]? = some v ∧ R v x
  | [], [], _, _, _, h => by simp at h
  | v :: _, _ :: _, 0, x, h, hk => by simp at hk; subst hk; exact ⟨v, rfl, h.1⟩
  | _ :: _, _ :: _, k + 1, x, h, hk => by
    obtain ⟨v, h1, h2⟩ := All2.get (k := k) h.2 (by simpa using hk)
    exact ⟨v, by simpa using h1, h2⟩

section
variable {N : Nat} {h h' : H}
theorem DVals.move {v : V} {l : List Val} (d : DVals N h v l) (hl : Low N h h') : DVals N h' v l := ⟨d.1.move d.2 hl, d.2⟩
theorem DInts.move {v : V} {l : List Int} (d : DInts N h v l) (hl : Low N h h') : DInts N h' v l := ⟨d.1.move d.2 hl, d.2⟩
theorem DMsgs.move {v : V} {l : List (List Val)} (d : DMsgs N h v l) (hl : Low N h h') : DMsgs N h' v l := by
  obtain ⟨vs, h1, h2, h3⟩ := d
  exact ⟨vs, h1.move h2 hl, h2, h3.imp fun v x d => d.move hl⟩
theorem DQueues.move {v : V} {l : List PQ} (d : DQueues N h v l) (hl : Low N h h') : DQueues N h' v l := by
  obtain ⟨vs, h1, h2, h3⟩ := d
  exact ⟨vs, h1.move h2 hl, h2, h3.imp fun v x d => d.move hl⟩
theorem DWaits.move {v : V} {l : List PW} (d : DWaits N h v l) (hl : Low N h h') : DWaits N h' v l := by
  obtain ⟨vs, h1, h2, h3⟩ := d
  exact ⟨vs, h1.move h2 hl, h2, h3.imp fun v x d => d.move hl⟩
theorem DParcel.move {v : V} {x : PX} (d : DParcel N h v x) (hl : Low N h h') : DParcel N h' v x := by
  obtain ⟨a, b, c, h1, h2, h3, h4⟩ := d
  exact ⟨a, b, c, h1, h2.move hl, h3.move hl, h4.move hl⟩
theorem DLetter.move {v : V} {x : PL} (d : DLetter N h v x) (hl : Low N h h') : DLetter N h' v x := by
  obtain ⟨a, h1, h2⟩ := d
  exact ⟨a, h1, h2.move hl⟩
end

theorem encVal_atoms (v : Val) : allAtoms (encVal v) = true := rfl

/-- what boxing a struct comes to. -/
theorem boxed {l : List V} {h : H} (hf : HF h) (ha : allAtoms l = true) : ∃ h1, boxL (V.cells (.agg l)) h = some (.ptr h.next 0, h1) ∧ Le h h1 ∧ h1.get h.next = some (.cells l) ∧ h1.next = h.next + 1 ∧ (∀ b o, h.get b = some o → h1.get b = some o) :=
  ⟨h.new (.cells l), boxL_agg ha h, Upd.new hf _, H.get_new_self _ _, rfl, fun b o hg => H.get_new_old hf hg _⟩

theorem name_wf {v : Val} {h : H} {Q : Ret → H → Prop} (hf : HF h) (hq : ∀ h', Le h h' → Q (.ok (bool (nameB v))) h') : WF sp2 fs 64 [.agg (encVal v)] h Q := by
  refine WF_enter (f := f64) rfl rfl rfl ?_
  obtain ⟨k, n⟩ := v
  obtain ⟨h1, hb, hle, hg, _, _⟩ := boxed (l := [int k, int n]) hf rfl
  have a1 := fieldAV_ptr (off := 0) (o := 0) hg
  have a2 := fieldAV_ptr (off := 0) (o := 1) hg
  have b1 := H.at1_ptr (off := 0) hg
  have b2 := H.at1_ptr (off := 1) hg
  simp only [List.getElem?_cons_zero, List.getElem?_cons_succ, Nat.zero_add] at a1 a2 b1 b2
  have hn := hq _ hle
  simp only [f64, encVal, walk, WAct, natOf_int, natOf_lit, List.nil_append, List.cons_append, List.append_nil, if_true, if_false, reduceIte, Nat.reduceEqDiff, Nat.zero_add, Nat.reduceAdd, hb, a1, a2, b1, b2]
  simp only [nameB] at hn
  by_cases h2 : k = 2
  · have e2 : decide (k = 2) = true := by simp [h2]
    rw [if_pos h2] at hn
    simp only [e2, walk, WAct, natOf_int, natOf_lit, List.nil_append, List.cons_append, List.append_nil, if_true, if_false, reduceIte, Nat.reduceEqDiff, Nat.zero_add, Nat.reduceAdd, a1, a2, b1, b2]
    refine below_wf ?_
    simp only [walk, WAct, natOf_int, natOf_lit, List.nil_append, List.cons_append, List.append_nil, if_true, if_false, reduceIte, Nat.reduceEqDiff, Nat.zero_add, Nat.reduceAdd]
    exact hn
  · have e2 : decide (k = 2) = false := by simp [h2]
    rw [if_neg h2] at hn
    simp only [e2, walk, WAct, natOf_int, natOf_lit, List.nil_append, List.cons_append, List.append_nil, if_true, if_false, reduceIte, Nat.reduceEqDiff, Nat.zero_add, Nat.reduceAdd, a1, a2, b1, b2]
    by_cases h3 : k = 3
    · have e3 : decide (k = 3) = true := by simp [h3]
      rw [if_pos h3] at hn
      simp only [e3, walk, WAct, natOf_int, natOf_lit, List.nil_append, List.cons_append, List.append_nil, if_true, if_false, reduceIte, Nat.reduceEqDiff, Nat.zero_add, Nat.reduceAdd, a1, a2, b1, b2]
      refine below_wf ?_
      simp only [walk, WAct, natOf_int, natOf_lit, List.nil_append, List.cons_append, List.append_nil, if_true, if_false, reduceIte, Nat.reduceEqDiff, Nat.zero_add, Nat.reduceAdd]
      exact hn
    · have e3 : decide (k = 3) = false := by simp [h3]
      rw [if_neg h3] at hn
      simp only [e3, walk, WAct, natOf_int, natOf_lit, List.nil_append, List.cons_append, List.append_nil, if_true, if_false, reduceIte, Nat.reduceEqDiff, Nat.zero_add, Nat.reduceAdd, a1, a2, b1, b2]
      cases e4 : decide (k = 4) with
      | true =>
        rw [e4, Bool.true_and] at hn
        simp only [walk, WAct, natOf_int, natOf_lit, List.nil_append, List.cons_append, List.append_nil, if_true, if_false, reduceIte, Nat.reduceEqDiff, Nat.zero_add, Nat.reduceAdd, a1, a2, b1, b2]
        refine below_wf ?_
        simp only [walk, WAct, natOf_int, natOf_lit, List.nil_append, List.cons_append, List.append_nil, if_true, if_false, reduceIte, Nat.reduceEqDiff, Nat.zero_add, Nat.reduceAdd]
        exact hn
      | false =>
        rw [e4, Bool.false_and] at hn
        simp only [walk, WAct, natOf_int, natOf_lit, List.nil_append, List.cons_append, List.append_nil, if_true, if_false, reduceIte, Nat.reduceEqDiff, Nat.zero_add, Nat.reduceAdd, a1, a2, b1, b2]
        exact hn

theorem value_wf {v : Val} {h : H} {Q : Ret → H → Prop} (hf : HF h) (hq : ∀ h', Le h h' → Q (.ok (bool (valueB v))) h') : WF sp2 fs 120 [.agg (encVal v)] h Q := by
  refine WF_enter (f := f120) rfl rfl rfl ?_
  obtain ⟨h1, hb, hle, hg, _, _⟩ := boxed (l := encVal v) hf rfl
  have l1 := H.at_ptr (off := 0) (n := 2) hg (Nat.le_refl _)
  simp only [List.drop_zero, List.take_of_length_le (show (encVal v).length ≤ 2 from Nat.le_refl _)] at l1
  simp only [f120, walk, WAct, natOf_int, natOf_lit, List.nil_append, List.cons_append, List.append_nil, if_true, if_false, reduceIte, Nat.reduceEqDiff, Nat.zero_add, Nat.reduceAdd, hb, l1]
  refine name_wf hle.fresh fun h2 hle2 => ?_
  have hg2 := hle2.get hle.fresh hg (by simp)
  have a1 := fieldAV_ptr (off := 0) (o := 0) hg2
  have a2 := fieldAV_ptr (off := 0) (o := 1) hg2
  have b1 := H.at1_ptr (off := 0) hg2
  have b2 := H.at1_ptr (off := 1) hg2
  simp only [encVal, List.getElem?_cons_zero, List.getElem?_cons_succ, Nat.zero_add] at a1 a2 b1 b2
  have hn := hq _ (hle.trans hle2)
  unfold valueB at hn
  simp only [walk, WAct, natOf_int, natOf_lit, List.nil_append, List.cons_append, List.append_nil, if_true, if_false, reduceIte, Nat.reduceEqDiff, Nat.zero_add, Nat.reduceAdd]
  cases e1 : nameB v with
  | true =>
    rw [e1, Bool.true_or] at hn
    simp only [walk, WAct, natOf_int, natOf_lit, List.nil_append, List.cons_append, List.append_nil, if_true, if_false, reduceIte, Nat.reduceEqDiff, Nat.zero_add, Nat.reduceAdd, a1, a2, b1, b2]
    exact hn
  | false =>
    rw [e1, Bool.false_or] at hn
    simp only [walk, WAct, natOf_int, natOf_lit, List.nil_append, List.cons_append, List.append_nil, if_true, if_false, reduceIte, Nat.reduceEqDiff, Nat.zero_add, Nat.reduceAdd, a1, a2, b1, b2]
    cases e2 : decide (v.1 = 1) with
    | false =>
      rw [e2, Bool.false_and] at hn
      simp only [walk, WAct, natOf_int, natOf_lit, List.nil_append, List.cons_append, List.append_nil, if_true, if_false, reduceIte, Nat.reduceEqDiff, Nat.zero_add, Nat.reduceAdd, a1, a2, b1, b2]
      exact hn
    | true =>
      rw [e2, Bool.true_and] at hn
      simp only [walk, WAct, natOf_int, natOf_lit, List.nil_append, List.cons_append, List.append_nil, if_true, if_false, reduceIte, Nat.reduceEqDiff, Nat.zero_add, Nat.reduceAdd, a1, a2, b1, b2]
      cases e3 : decide (-1000000000 ≤ v.2) with
      | false =>
        rw [e3, Bool.false_and] at hn
        simp only [walk, WAct, natOf_int, natOf_lit, List.nil_append, List.cons_append, List.append_nil, if_true, if_false, reduceIte, Nat.reduceEqDiff, Nat.zero_add, Nat.reduceAdd, a1, a2, b1, b2]
        exact hn
      | true =>
        rw [e3, Bool.true_and] at hn
        simp only [walk, WAct, natOf_int, natOf_lit, List.nil_append, List.cons_append, List.append_nil, if_true, if_false, reduceIte, Nat.reduceEqDiff, Nat.zero_add, Nat.reduceAdd, a1, a2, b1, b2]
        exact hn

end A
end Go.Proofs.YtcohlhplpogopaaGreat

namespace Go.Proofs.YtcohlhplpogopaaGreat
namespace A

/-- 'all' at a test that changes nothing. -/
theorem allPure_wf {id clos cont idx : FuncId} {es : Nat} {ld : Option Nat} (hid : fs id = some (allF clos cont)) (hs : sp2 id = none) (hcl : ClosOK clos es ld) (hct : fs cont = some (contF idx)) (hsc : sp2 cont = none) (hidx : fs idx = some (idxF es ld)) (hsx : sp2 idx = none)
    {s : V} {p : FuncId} {caps : List V} {L : List (List V)} {elem : Nat → V} {N : Nat} {h : H} {Q : Ret → H → Prop} (T : Nat → Bool) (hf : HF h) (hN : N ≤ h.next) (hr : Rows h es s L) (hb : SlB N s) (hlen : L.length ≤ 140737488355328)
    (hld : ∀ k, k < L.length → Elem es ld L.flatten k (elem k))
    (hcall : ∀ k h', k < L.length → HF h' → N ≤ h'.next → Low N h h' → WF sp2 fs p (elem k :: caps) h' fun r h'' => r = .ok (bool (T k)) ∧ Le h' h'')
    (hall : (∀ k, k < L.length → T k = true) → ∀ h', Le h h' → Q (.ok (bool true)) h') (hnot : (∃ k, k < L.length ∧ T k = false) → ∀ h', Le h h' → Q (.ok (bool false)) h') : WF sp2 fs id [s, .fn (.func p) [] caps] h Q := by
  refine all_wf hid hs hcl hct hsc hidx hsx (cells := L.flatten) (len := L.length) (elem := elem) (fun _ => False) (fun k h' => Low N h h' ∧ N ≤ h'.next ∧ ∀ j, j < k → T j = true) (fun k h' => T k = false) hf (fun b hb => hb.elim) hlen hr.atoms
    (fun k h' hh => (hr.move hb hh.1).sl) hld (fun k h' h'' hh hle => ⟨hh.1.trans (hle.lowLe hh.2.1), Nat.le_trans hh.2.1 hle.le, hh.2.2⟩) ?_ ⟨Low.refl _ _, hN, fun j hj => absurd hj (Nat.not_lt_zero _)⟩ ?_ ?_
  · rintro k h' hk hf' ⟨g1, g2, g3⟩
    refine WF.mono (hcall k h' hk hf' g2 g1) ?_
    rintro r h'' ⟨rfl, hle⟩
    refine ⟨T k, rfl, hle, ?_⟩
    cases hT : T k with
    | true =>
      rw [if_pos rfl]
      refine ⟨g1.trans (hle.lowLe g2), Nat.le_trans g2 hle.le, fun j hj => ?_⟩
      by_cases e : j = k
      · rw [e]; exact hT
      · exact g3 j (by omega)
    | false => rw [if_neg (by decide)]
  · rintro h' hle ⟨_, _, g⟩
    exact hall g h' hle
  · rintro k h' hk hle hT
    exact hnot ⟨k, hk, hT⟩ h' hle

theorem all_getD {α : Type} {f : α → Bool} {l : List α} (d : α) : (∀ k, k < l.length → f ((l[k]?).getD d) = true) ↔ l.all f = true := by
  rw [List.all_eq_true]
  constructor
  · intro h x hx
    obtain ⟨k, hk, rfl⟩ := List.getElem_of_mem hx
    have := h k hk
    rwa [List.getElem?_eq_getElem hk] at this
  · intro h k hk
    rw [List.getElem?_eq_getElem hk]
    exact h _ (List.getElem_mem hk)
theorem any_getD {α : Type} {f : α → Bool} {l : List α} (d : α) (h : ∃ k, k < l.length ∧ f ((l[k]?).getD d) = false) : l.all f = false := by
  obtain ⟨k, hk, h1⟩ := h
  rw [List.getElem?_eq_getElem hk] at h1
  cases ha : l.all f with
  | false => rfl
  | true => rw [List.all_eq_true] at ha; have := ha _ (List.getElem_mem hk); rw [Option.getD_some] at h1; rw [this] at h1; cases h1

/-- 'all' over values, at a test that is computed from a value alone. -/
theorem allVals_wf {N : Nat} {h : H} {Q : Ret → H → Prop} {s : V} {l : List Val} (hf : HF h) (hN : N ≤ h.next) (hd : DVals N h s l) (hlen : l.length ≤ 140737488355328) (hq : ∀ h', Le h h' → Q (.ok (bool (l.all valueB))) h') :
    WF sp2 fs 119 [s, .fn (.func 120) [] []] h Q := by
  refine allPure_wf (clos := 170) (cont := 169) (idx := 216) (es := 2) (ld := some 2) (elem := fun k => .agg ((((l.map encVal)[k]?)).getD [])) rfl rfl ⟨rfl, .inr ⟨rfl, rfl⟩⟩ rfl rfl rfl rfl (fun k => valueB ((l[k]?).getD (0, 0))) hf hN hd.1 hd.2 (by simpa using hlen) (fun k hk => hd.1.elem hk) ?_ ?_ ?_
  · intro k h' hk hf' _ _
    have hk' : k < l.length := by simpa using hk
    have : ((l.map encVal)[k]?).getD [] = encVal ((l[k]?).getD (0, 0)) := by rw [List.getElem?_map, List.getElem?_eq_getElem hk']; rfl
    show WF sp2 fs 120 [.agg (((l.map encVal)[k]?).getD [])] h' _
    rw [this]
    exact value_wf hf' fun h'' hle => ⟨rfl, hle⟩
  · intro hall h' hle
    have := hq h' hle
    rwa [(all_getD (0, 0)).1 (fun k hk => hall k (by simpa using hk))] at this
  · rintro ⟨k, hk, hT⟩ h' hle
    have := hq h' hle
    rwa [any_getD (0, 0) ⟨k, by simpa using hk, hT⟩] at this

theorem message_wf {N : Nat} {h : H} {Q : Ret → H → Prop} {s : V} {l : List Val} (hf : HF h) (hN : N ≤ h.next) (hd : DVals N h s l) (hlen : l.length ≤ 140737488355328) (hq : ∀ h', Le h h' → Q (.ok (bool (messageB l))) h') :
    WF sp2 fs 117 [.agg [s]] h Q := by
  refine WF_enter (f := f117) rfl rfl rfl ?_
  have hat : allAtoms [s] = true := by
    show cond s.atom true false = true
    rw [atom_slc hd.1.sl.nk]; rfl
  obtain ⟨h1, hb, hle, hg, _, _⟩ := boxed (l := [s]) hf hat
  have a1 := fieldAV_ptr (off := 0) (o := 0) hg
  have b1 := H.at1_ptr (off := 0) hg
  simp only [List.getElem?_cons_zero, Nat.zero_add] at a1 b1
  have hd1 := hd.move (hle.lowLe hN)
  have hln := hd1.1.sl.lenV
  simp only [f117, walk, WAct, natOf_int, natOf_lit, List.nil_append, List.cons_append, List.append_nil, if_true, if_false, reduceIte, Nat.reduceEqDiff, Nat.zero_add, Nat.reduceAdd, hb, a1, b1, hln]
  have hmn : messageB l = (decide (((l.map encVal).length : Int) ≤ 3) && l.all valueB) := by
    unfold messageB
    rw [List.length_map]
    congr 1
    rw [decide_eq_decide]
    omega
  rw [hmn] at hq
  cases e : decide (((l.map encVal).length : Int) ≤ 3) with
  | false =>
    rw [e, Bool.false_and] at hq
    simp only [walk, WAct, natOf_int, natOf_lit, List.nil_append, List.cons_append, List.append_nil, if_true, if_false, reduceIte, Nat.reduceEqDiff, Nat.zero_add, Nat.reduceAdd, a1, b1]
    exact hq _ hle
  | true =>
    rw [e, Bool.true_and] at hq
    simp only [walk, WAct, natOf_int, natOf_lit, List.nil_append, List.cons_append, List.append_nil, if_true, if_false, reduceIte, Nat.reduceEqDiff, Nat.zero_add, Nat.reduceAdd, a1, b1]
    refine allVals_wf hle.fresh (Nat.le_trans hN hle.le) hd1 hlen fun h2 hle2 => ?_
    simp only [walk, WAct, natOf_int, natOf_lit, List.nil_append, List.cons_append, List.append_nil, if_true, if_false, reduceIte, Nat.reduceEqDiff, Nat.zero_add, Nat.reduceAdd]
    exact hq _ (hle.trans hle2)

end A
end Go.Proofs.YtcohlhplpogopaaGreat

