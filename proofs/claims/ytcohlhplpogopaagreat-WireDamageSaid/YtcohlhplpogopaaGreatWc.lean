/-
  package wire: numbers, names, what a writer does. (No statement of the seat is proved here.)
-/
import Derived.Test.YtcohlhplpogopaaGreatWb
set_option linter.unusedSimpArgs false
set_option linter.unusedVariables false
namespace Go.Proofs.YtcohlhplpogopaaGreat
namespace A

def properB (l : PL) : Bool := belowB l.chan 60 && messageB l.vals

theorem cells_slc {v : V} (h : isNK .slc v = true) : V.cells v = [v] := by
  cases v with
  | lit x => cases x <;> first | rfl | cases h
  | _ => first | rfl | cases h

theorem proper_wf {N : Nat} {h : H} {Q : Ret → H → Prop} {v : V} {l : PL} (hf : HF h) (hN : N ≤ h.next) (hd : DLetter N h v l) (hlen : l.vals.length ≤ most) (hq : ∀ h', Le h h' → Q (.ok (bool (properB l))) h') : WF sp2 fs 54 [v] h Q := by
  obtain ⟨va, rfl, dv⟩ := hd
  have hm : most = 1000000 := rfl
  refine WF_enter (f := f54) rfl rfl rfl ?_
  obtain ⟨h1, hb, hle, hg, _, _⟩ := boxed (l := [int l.chan, va]) hf (atoms2 rfl dv.atom)
  have a0 := fieldAV_ptr (off := 0) (o := 0) hg
  have a1 := fieldAV_ptr (off := 0) (o := 1) hg
  have b0 := H.at1_ptr (off := 0) hg
  have b1 := H.at1_ptr (off := 1) hg
  simp only [List.getElem?_cons_zero, List.getElem?_cons_succ, Nat.zero_add] at a0 a1 b0 b1
  have hfl : fillP 0 1 (V.cells va) [.lit (.slice none 0 0)] (fun l => some l) = some [va] := by
    rw [cells_slc dv.1.sl.nk]
    show cond (and (Nat.beq 1 1) (and (Nat.ble 1 1) (cond va.atom true false))) (some (wr [.lit (.slice none 0 0)] 0 [va])) none = _
    rw [dv.atom]; rfl
  have hfv : ∀ tm : TM, fillV [(0, 1, .t 8)] tm [.lit (.slice none 0 0)] = fillP 0 1 (tm.nth 8).cells [.lit (.slice none 0 0)] (fun l => some l) := fun _ => rfl
  simp only [f54, walk, WAct, natOf_int, natOf_lit, List.nil_append, List.cons_append, List.append_nil, if_true, if_false, reduceIte, Nat.reduceEqDiff, Nat.zero_add, Nat.reduceAdd, hb, a0, b0]
  refine below_wf ?_
  unfold properB at hq
  simp only [walk, WAct, natOf_int, natOf_lit, List.nil_append, List.cons_append, List.append_nil, if_true, if_false, reduceIte, Nat.reduceEqDiff, Nat.zero_add, Nat.reduceAdd]
  cases e1 : belowB l.chan 60 with
  | false =>
    rw [e1, Bool.false_and] at hq
    have e1' : decide (0 ≤ l.chan ∧ l.chan < 60) = false := e1
    simp only [e1', walk, WAct, natOf_int, natOf_lit, List.nil_append, List.cons_append, List.append_nil, if_true, if_false, reduceIte, Nat.reduceEqDiff, Nat.zero_add, Nat.reduceAdd]
    exact hq _ hle
  | true =>
    rw [e1, Bool.true_and] at hq
    have e1' : decide (0 ≤ l.chan ∧ l.chan < 60) = true := e1
    simp only [e1', walk, WAct, natOf_int, natOf_lit, List.nil_append, List.cons_append, List.append_nil, if_true, if_false, reduceIte, Nat.reduceEqDiff, Nat.zero_add, Nat.reduceAdd, a1, b1, hfv, hfl]
    refine message_wf hle.fresh (Nat.le_trans hN hle.le) (dv.move (hle.lowLe hN)) (by omega) fun h2 hle2 => ?_
    simp only [walk, WAct, natOf_int, natOf_lit, List.nil_append, List.cons_append, List.append_nil, if_true, if_false, reduceIte, Nat.reduceEqDiff, Nat.zero_add, Nat.reduceAdd]
    exact hq _ (hle.trans hle2)

/- numbers as bytes -/
def numB (n : Nat) : List UInt8 := if n > 127 then UInt8.ofNat (n % 128 + 128) :: numB (n / 128) else [UInt8.ofNat n]
termination_by n
decreasing_by omega

theorem numB_big {n : Nat} (h : 127 < n) : numB n = UInt8.ofNat (n % 128 + 128) :: numB (n / 128) := by rw [numB, if_pos h]
theorem numB_small {n : Nat} (h : n ≤ 127) : numB n = [UInt8.ofNat n] := by rw [numB, if_neg (by omega)]
theorem numB_pos (n : Nat) : 0 < (numB n).length := by
  rw [numB]; split <;> simp
theorem numB_length : ∀ (k n : Nat), n < 128 ^ (k + 1) → (numB n).length ≤ k + 1
  | 0, n, h => by rw [numB_small (by omega)]; exact Nat.le_refl _
  | k + 1, n, h => by
    by_cases hn : 127 < n
    · rw [numB_big hn, List.length_cons]
      have : n / 128 < 128 ^ (k + 1) := by rw [Nat.div_lt_iff_lt_mul (by decide)]; rw [Nat.pow_succ] at h; exact h
      have := numB_length k (n / 128) this
      omega
    · rw [numB_small (by omega)]; simp
theorem numB_ten {n : Nat} (h : n < 9223372036854775808) : (numB n).length ≤ 10 := numB_length 9 n (Nat.lt_of_lt_of_le h (by decide))

theorem byteV_of (n : Nat) (h : n < 256) : byteV (UInt8.ofNat n) = u8 n := by
  show V.lit (.int .u8 (Int.ofNat (UInt8.ofNat n).toNat)) = _
  rw [UInt8.toNat_ofNat', Nat.mod_eq_of_lt h]; rfl
theorem bytes_allAtoms (l : List UInt8) : allAtoms (l.map byteV) = true := bytes_atoms l

theorem toU_nat {n : Nat} (h : n < 9223372036854775808) : toU .i64 (n : Int) = n := by
  unfold toU
  show (((n : Int) % (2 ^ 64 : Int)).toNat) = n
  omega
theorem and127 {n : Nat} (h : n < 9223372036854775808) : ar .and (int n) (int 127) = some (int ((n % 128 : Nat) : Int)) := by
  rw [ar_int _ _ _ _ rfl]
  show some (litI .i64 (wrapK .i64 (Int.ofNat (Nat.land (toU .i64 (n : Int)) (toU .i64 127))))) = _
  rw [wrapK_eq, toU_nat h, show toU .i64 127 = 127 from by decide]
  have : Nat.land n 127 = n % 128 := by
    have := Nat.and_two_pow_sub_one_eq_mod n 7
    exact this
  rw [this]
  show some (int (IntKind.i64.wrap ((n % 128 : Nat) : Int))) = _
  rw [wrap_lt (by omega)]
theorem or128 {n : Nat} (h : n < 128) : ar .or (int n) (int 128) = some (int ((n + 128 : Nat) : Int)) := by
  rw [ar_int _ _ _ _ rfl]
  show some (litI .i64 (wrapK .i64 (Int.ofNat (Nat.lor (toU .i64 (n : Int)) (toU .i64 128))))) = _
  rw [wrapK_eq, toU_nat (by omega), show toU .i64 128 = 128 from by decide]
  have : Nat.lor n 128 = n + 128 := by
    have h1 := Nat.two_pow_add_eq_or_of_lt (i := 7) (b := n) h 1
    have h2 : n ||| 128 = 128 ||| n := Nat.or_comm _ _
    show n ||| 128 = _
    rw [h2]
    have h3 : 2 ^ 7 * 1 + n = 2 ^ 7 * 1 ||| n := h1
    simp at h3
    omega
  rw [this]
  show some (int (IntKind.i64.wrap ((n + 128 : Nat) : Int))) = _
  rw [wrap_lt (by omega)]
theorem wrap8 {n : Nat} (hn : n < 256) : IntKind.u8.wrap (n : Int) = n := by
  simp [IntKind.wrap, IntKind.bits, IntKind.signed]; omega
theorem shr7 (n : Nat) : ar .shr (int n) (.lit (.int .u64 7)) = some (int ((n / 128 : Nat) : Int)) := by
  show arShr .i64 (n : Int) 7 = _
  show cond (ltI 7 0) none (some (litI .i64 ((n : Int).fdiv (2 ^ (Nat.min 7 64))))) = _
  show some (litI .i64 ((n : Int).fdiv (2 ^ 7))) = _
  have : (n : Int).fdiv (2 ^ 7) = ((n / 128 : Nat) : Int) := by
    rw [Int.fdiv_eq_ediv_of_nonneg _ (by decide)]
    omega
  rw [this]; rfl

theorem fill_u8 (b : Int) : fillP 0 1 (V.cells (u8 b)) [.lit (.int .u8 0)] (fun l => some l) = some [u8 b] := rfl

def numBody : C :=
  .reg [⟨some 9, .mov (.t 0), none⟩, ⟨some 10, .mov (.t 1), none⟩, ⟨some 11, .ar .and (.t 10) (.c (.lit (.int .i64 127))), none⟩, ⟨some 12, .ar .or (.t 11) (.c (.lit (.int .i64 128))), none⟩, ⟨some 13, .conv .u8 (.t 12), none⟩, ⟨some 14, .lits 1 1 [.lit (.int .u8 0)] [(0, 1, .t 13)], none⟩, ⟨some 15, .app 1 1 (.t 9) (.t 14), none⟩, ⟨some 0, .mov (.t 15), none⟩]
theorem f142_eq : f142 = ⟨21, [.tmp 4], none, .seq (.reg [⟨some 4, .mov (.c (.lit (.slice none 0 0))), none⟩])
    (.seq (.block 0 (.loop (.seq (.seq (.reg [⟨some 5, .mov (.t 1), none⟩, ⟨some 6, .ar .gtr (.t 5) (.c (.lit (.int .i64 127))), none⟩]) (.cond (.t 6) .skip (.exit 0))) (.seq (.block 1 numBody) (.reg [⟨some 7, .mov (.t 1), none⟩, ⟨some 8, .ar .shr (.t 7) (.c (.lit (.int .u64 7))), none⟩, ⟨some 1, .mov (.t 8), none⟩])))))
      (.seq (.reg [⟨some 16, .mov (.t 0), none⟩, ⟨some 17, .mov (.t 1), none⟩, ⟨some 18, .conv .u8 (.t 17), none⟩, ⟨some 19, .lits 1 1 [.lit (.int .u8 0)] [(0, 1, .t 18)], none⟩, ⟨some 20, .app 1 1 (.t 16) (.t 19), none⟩, ⟨some 4, .mov (.t 20), none⟩]) .ret))⟩ := rfl

/-- where an own slice lies: among the first, or new. -/
def OwnIn (N : Nat) (v v' : V) : Prop := ∀ c, OwnB v' c → OwnB v c ∨ N ≤ c

/-- from h to h' only the slice's own object has changed. -/
theorem number_wf {h : H} {Q : Ret → H → Prop} {v : V} {bs : List UInt8} {n : Nat} (hf : HF h) (ho : Own h 1 v (bs.map byteV) bs.length) (hn : n < 9223372036854775808) (hl : bs.length ≤ 1000000000000)
    (hq : ∀ v' h', Upd (OwnB v) h h' → OwnIn h.next v v' → Own h' 1 v' ((bs ++ numB n).map byteV) (bs ++ numB n).length → (∀ c, OwnB v' c → h.next ≤ c) → Q (.ok v') h') : WF sp2 fs 142 [v, int n] h Q := by
  refine WF_enter (f := f142) rfl rfl rfl ?_
  rw [f142_eq]
  simp only [walk, WAct, natOf_int, natOf_lit, List.nil_append, List.cons_append, List.append_nil, if_true, if_false, reduceIte, Nat.reduceEqDiff, Nat.zero_add, Nat.reduceAdd]
  show WR sp2 fs (.loop _) _ _
  refine WR_loop (fun m st => ∃ (k : Nat) (cs : List UInt8) (v1 : V), m = k ∧ k ≤ n ∧ st.tm.nth 1 = int k ∧ st.tm.nth 0 = v1 ∧ st.df = [] ∧ cs ++ numB k = bs ++ numB n ∧ Own st.h 1 v1 (cs.map byteV) cs.length ∧ Upd (OwnB v) h st.h ∧ OwnIn h.next v v1) ?_ n _ ⟨n, bs, v, rfl, Nat.le_refl _, by simp only [walk, WAct, natOf_int, natOf_lit, List.nil_append, List.cons_append, List.append_nil, if_true, if_false, reduceIte, Nat.reduceEqDiff, Nat.zero_add, Nat.reduceAdd], by simp only [walk, WAct, natOf_int, natOf_lit, List.nil_append, List.cons_append, List.append_nil, if_true, if_false, reduceIte, Nat.reduceEqDiff, Nat.zero_add, Nat.reduceAdd], rfl, rfl, ho, Upd.refl hf, fun c hc => .inl hc⟩
  rintro k ⟨tm, df, hh⟩ ⟨_, cs, v1, rfl, hkn, h1, h2, h3, h4, h5, h6, h7⟩
  simp only at h1 h2 h3 h5 h6
  subst h3
  have hlen : cs.length ≤ bs.length + 10 := by
    have := congrArg List.length h4
    rw [List.length_append, List.length_append] at this
    have := numB_ten hn
    omega
  -- one byte more
  have more : ∀ b : UInt8, ∃ v2 h', appendV 1 1 v1 (.slc hh.next 0 1 1 (some 1)) (hh.new (.cells [byteV b])) = some (v2, h') ∧ Own h' 1 v2 ((cs ++ [b]).map byteV) (cs ++ [b]).length ∧ Upd (OwnB v) h h' ∧ OwnIn h.next v v2 ∧ (∀ c, OwnB v2 c → h.next ≤ c) := by
    intro b
    obtain ⟨h', p1, p2, p3, p4⟩ := append_one (bytes := 1) (c := [byteV b]) h6.fresh h5 rfl (by decide) rfl (by omega) (fun _ => keepB_bytes rfl)
    have hnew : ∀ c, OwnB (.slc (hh.next + 1) 0 (cs.length + 1) 1 none) c → h.next ≤ c := fun c hc => by
      have : c = hh.next + 1 := hc
      have := h6.le; omega
    refine ⟨_, h', p1, by rw [List.map_append, List.length_append]; exact p2, ⟨Nat.le_trans h6.le p4.le, fun c hc hs => ?_, p4.fresh⟩, fun c hc => .inr (hnew c hc), hnew⟩
    rw [p4.same c (Nat.lt_of_lt_of_le hc h6.le) (fun hh2 => ?_), h6.same c hc hs]
    rcases h7 c hh2 with g | g
    · exact hs g
    · omega
  have hfv : ∀ (tm : TM) (i : Nat), fillV [(0, 1, .t i)] tm [.lit (.int .u8 0)] = fillP 0 1 (tm.nth i).cells [.lit (.int .u8 0)] (fun l => some l) := fun _ _ => rfl
  simp only [walk, WAct, natOf_int, natOf_lit, List.nil_append, List.cons_append, List.append_nil, if_true, if_false, reduceIte, Nat.reduceEqDiff, Nat.zero_add, Nat.reduceAdd, h1]
  by_cases hk : 127 < k
  · have e1 : decide ((127 : Int) < (k : Int)) = true := by simp; omega
    have hmod : k % 128 < 128 := Nat.mod_lt _ (by decide)
    obtain ⟨v2, h', p1, p2, p3, p4, _⟩ := more (UInt8.ofNat (k % 128 + 128))
    rw [byteV_of _ (by omega)] at p1
    simp only [e1, numBody, walk, WAct, natOf_int, natOf_lit, List.nil_append, List.cons_append, List.append_nil, if_true, if_false, reduceIte, Nat.reduceEqDiff, Nat.zero_add, Nat.reduceAdd, h1, h2, and127 (show k < 9223372036854775808 by omega), or128 hmod, wrap8 (show k % 128 + 128 < 256 by omega), hfv, fill_u8, lits_one (es := 1) (c := [u8 ((k % 128 + 128 : Nat) : Int)]) (h := hh) rfl, p1, shr7]
    refine ⟨k / 128, by omega, k / 128, cs ++ [UInt8.ofNat (k % 128 + 128)], v2, rfl, by omega, rfl, rfl, trivial, ?_, p2, p3, p4⟩
    rw [← h4, numB_big hk, List.append_assoc]; rfl
  · have e1 : decide ((127 : Int) < (k : Int)) = false := by simp; omega
    obtain ⟨v2, h', p1, p2, p3, p4, p5⟩ := more (UInt8.ofNat k)
    rw [byteV_of _ (by omega)] at p1
    simp only [e1, walk, WAct, natOf_int, natOf_lit, List.nil_append, List.cons_append, List.append_nil, if_true, if_false, reduceIte, Nat.reduceEqDiff, Nat.zero_add, Nat.reduceAdd, h1, h2, wrap8 (show k < 256 by omega), hfv, fill_u8, lits_one (es := 1) (c := [u8 (k : Int)]) (h := hh) rfl, p1]
    rw [numB_small (by omega)] at h4
    refine hq v2 h' p3 p4 ?_ p5
    rw [← h4]; exact p2

end A
end Go.Proofs.YtcohlhplpogopaaGreat

namespace Go.Proofs.YtcohlhplpogopaaGreat
namespace A

/- names and their numbers -/
def kv (v : Val) : V := .agg (encVal v)
def pairs : List Val → Nat → List (Val × V)
  | [], _ => []
  | v :: l, k => (v, int k) :: pairs l (k + 1)
theorem pairs_append (v : Val) : ∀ (l : List Val) (k : Nat), pairs (l ++ [v]) k = pairs l k ++ [(v, int ((k + l.length : Nat) : Int))]
  | [], k => rfl
  | x :: l, k => by
    simp only [List.cons_append, pairs, pairs_append v l (k + 1), List.length_cons]
    rw [show k + 1 + l.length = k + (l.length + 1) from by omega]
theorem look2_pairs {v : Val} : ∀ (l : List Val) (k : Nat), look2 v (pairs l k) = if v ∈ l then some (int ((k + l.idxOf v : Nat) : Int)) else none
  | [], k => by simp [pairs, look2]
  | x :: l, k => by
    simp only [pairs, look2, look2_pairs l (k + 1)]
    by_cases e : x = v
    · subst e
      simp [List.idxOf_cons]
    · have hb : (x == v) = false := by simpa using e
      rw [if_neg e, List.idxOf_cons, hb]
      simp only [cond_false, List.mem_cons, Ne.symm e, false_or]
      by_cases hm : v ∈ l
      · rw [if_pos hm, if_pos hm, show k + 1 + l.idxOf v = k + (l.idxOf v + 1) from by omega]
      · rw [if_neg hm, if_neg hm]

def mention (v : Val) (names : List Val) : List Val := if v ∈ names then names else names ++ [v]

/-- where a writer's parts lie. -/
structure WSt where
  w : Nat
  mb : Nat
  nv : V
  bv : V
def WSt.has (s : WSt) (b : Nat) : Prop := b = s.w ∨ b = s.mb ∨ OwnB s.nv b ∨ OwnB s.bv b

structure WS (h : H) (s : WSt) (names : List Val) (body : List UInt8) : Prop where
  cell : h.get s.w = some (.cells [s.nv, .map s.mb, s.bv])
  map : h.get s.mb = some (.mp (encM kv (pairs names 0)))
  nv : Own h 2 s.nv (names.map encVal).flatten names.length
  bv : Own h 1 s.bv (body.map byteV) body.length
  a1 : s.w ≠ s.mb
  a2 : ∀ b, OwnB s.nv b → b ≠ s.w ∧ b ≠ s.mb ∧ ¬ OwnB s.bv b
  a3 : ∀ b, OwnB s.bv b → b ≠ s.w ∧ b ≠ s.mb

/-- from h to h' only the writer has changed, and what is new belongs to it alone. -/
structure Wrote (h : H) (s : WSt) (h' : H) (s' : WSt) : Prop where
  upd : Upd s.has h h'
  new : ∀ b, s'.has b → s.has b ∨ h.next ≤ b
  w : s'.w = s.w

theorem Wrote.trans {h h' h'' : H} {s s' s'' : WSt} (g : Wrote h s h' s') (g' : Wrote h' s' h'' s'') : Wrote h s h'' s'' := by
  refine ⟨⟨Nat.le_trans g.upd.le g'.upd.le, fun b h1 h2 => ?_, g'.upd.fresh⟩, fun b hb => ?_, g'.w.trans g.w⟩
  · rw [g'.upd.same b (Nat.lt_of_lt_of_le h1 g.upd.le) fun hh => (g.new b hh).elim h2 (by omega), g.upd.same b h1 h2]
  · rcases g'.new b hb with h1 | h1
    · exact g.new b h1
    · exact .inr (Nat.le_trans g.upd.le h1)
theorem Wrote.get {h h' : H} {s s' : WSt} (g : Wrote h s h' s') {b : Nat} {o : Obj} (hf : HF h) (hg : h.get b = some o) (hb : ¬ s.has b) : h'.get b = some o := g.upd.get hf hg hb
theorem Wrote.not {h h' : H} {s s' : WSt} (g : Wrote h s h' s') {b : Nat} (hlt : b < h.next) (hb : ¬ s.has b) : ¬ s'.has b := fun hh => (g.new b hh).elim hb (by omega)
theorem Wrote.refl {h : H} (hf : HF h) (s : WSt) : Wrote h s h s := ⟨Upd.refl hf, fun b hb => .inl hb, rfl⟩

theorem WS.lt {h : H} {s : WSt} {names : List Val} {body : List UInt8} (hf : HF h) (g : WS h s names body) {b : Nat} (hb : s.has b) : b < h.next := by
  have own : ∀ {es n : Nat} {v : V} {L : List V}, Own h es v L n → OwnB v b → b < h.next := by
    intro es n v L ho hv
    rcases ho with ⟨rfl, _⟩ | ⟨c, cap, rfl, _, hg, _⟩
    · exact hv.elim
    · rw [show b = c from hv]; exact hf.lt hg
  rcases hb with rfl | rfl | hb | hb
  · exact hf.lt g.cell
  · exact hf.lt g.map
  · exact own g.nv hb
  · exact own g.bv hb

/-- the writer is as it was, in a heap in which its objects are. -/
theorem WS.keep {h h' : H} {s : WSt} {names : List Val} {body : List UInt8} (g : WS h s names body) (hk : ∀ b, s.has b → h'.get b = h.get b) : WS h' s names body :=
  ⟨by rw [hk _ (.inl rfl)]; exact g.cell, by rw [hk _ (.inr (.inl rfl))]; exact g.map, g.nv.keep fun c hc => hk c (.inr (.inr (.inl hc))), g.bv.keep fun c hc => hk c (.inr (.inr (.inr hc))), g.a1, g.a2, g.a3⟩
theorem WS.le {h h' : H} {s : WSt} {names : List Val} {body : List UInt8} (hf : HF h) (g : WS h s names body) (hle : Le h h') : WS h' s names body := g.keep fun b hb => hle.same b (g.lt hf hb) (by simp)

theorem chkV_ptr {b off : Nat} {h : H} {o : Obj} (hg : h.get b = some o) : chkV (.ptr b off) h = some (.ptr b off, h) := by
  show ifHas (h.get b) _ h = _
  rw [hg]; rfl

theorem own_atom {h : H} {es n : Nat} {v : V} {L : List V} (o : Own h es v L n) : v.atom = true := atom_slc o.nk
theorem own_cells {h : H} {es n : Nat} {v : V} {L : List V} (o : Own h es v L n) : V.cells v = [v] := cells_slc o.nk

/-- a number more. -/
theorem num_wf {h : H} {Q : Ret → H → Prop} {s : WSt} {names : List Val} {body : List UInt8} {n : Nat} (hf : HF h) (g : WS h s names body) (hn : n < 9223372036854775808) (hl : body.length ≤ 1000000000000)
    (hq : ∀ h' s', Wrote h s h' s' → WS h' s' names (body ++ numB n) → Q (.ok (.tup [])) h') : WF sp2 fs 132 [.ptr s.w 0, int n] h Q := by
  refine WF_enter (f := f132) rfl rfl rfl ?_
  have c0 := chkV_ptr (off := 0) g.cell
  have f2 := fieldAV_ptr (off := 0) (o := 2) g.cell
  have b2 := H.at1_ptr (off := 2) g.cell
  simp only [List.getElem?_cons_zero, List.getElem?_cons_succ, Nat.zero_add] at f2 b2
  simp only [f132, walk, WAct, natOf_int, natOf_lit, List.nil_append, List.cons_append, List.append_nil, if_true, if_false, reduceIte, Nat.reduceEqDiff, Nat.zero_add, Nat.reduceAdd, c0, f2, b2]
  refine number_wf hf g.bv hn hl fun v' h1 hu hin ho hnew => ?_
  have hw1 : h1.get s.w = some (.cells [s.nv, .map s.mb, s.bv]) := hu.get hf g.cell fun hh => (g.a3 _ hh).1 rfl
  have hm1 : h1.get s.mb = some (.mp (encM kv (pairs names 0))) := hu.get hf g.map fun hh => (g.a3 _ hh).2 rfl
  have hn1 : Own h1 2 s.nv (names.map encVal).flatten names.length := g.nv.keep fun c hc => hu.same c (g.lt hf (.inr (.inr (.inl hc)))) (g.a2 c hc).2.2
  have c1 := chkV_ptr (off := 0) hw1
  have f21 := fieldAV_ptr (off := 0) (o := 2) hw1
  simp only [Nat.zero_add] at f21
  have hk : keepB [s.nv, .map s.mb, s.bv] [v'] = true := keepB_of ⟨.map s.mb, by simp, rfl⟩
  have s1 := store_ptr (off := 2) (n := 1) (xs := [v']) hw1 rfl (Nat.le_refl _) (by show cond v'.atom true false = true; rw [own_atom ho]; rfl) hk
  rw [show wr [s.nv, .map s.mb, s.bv] 2 [v'] = [s.nv, .map s.mb, v'] from rfl] at s1
  simp only [walk, WAct, natOf_int, natOf_lit, List.nil_append, List.cons_append, List.append_nil, if_true, if_false, reduceIte, Nat.reduceEqDiff, Nat.zero_add, Nat.reduceAdd, c1, f21, own_cells ho, s1]
  have hwlt := hf.lt g.cell
  have hwl1 := hu.fresh.lt hw1
  have hget : ∀ c, (h1.set s.w (some (.cells [s.nv, .map s.mb, v']))).get c = if c = s.w then some (.cells [s.nv, .map s.mb, v']) else h1.get c := fun c => H.get_set _ _ _ _
  refine hq _ ⟨s.w, s.mb, s.nv, v'⟩ ⟨⟨hu.le, fun b hb hs => ?_, ?_⟩, fun b hb => ?_, rfl⟩ ⟨?_, ?_, ?_, ?_, g.a1, ?_, ?_⟩
  · rw [hget, if_neg fun e => hs (.inl e)]
    exact hu.same b hb fun hh => hs (.inr (.inr (.inr hh)))
  · exact (Upd.set (S := fun _ => True) hu.fresh _ trivial hwl1).fresh
  · rcases hb with hb | hb | hb | hb
    · exact .inl (.inl hb)
    · exact .inl (.inr (.inl hb))
    · exact .inl (.inr (.inr (.inl hb)))
    · exact .inr (hnew b hb)
  · rw [hget, if_pos rfl]
  · rw [hget, if_neg (Ne.symm g.a1)]; exact hm1
  · exact hn1.keep fun c hc => by rw [hget, if_neg (g.a2 c hc).1]
  · exact ho.keep fun c hc => by rw [hget, if_neg (by have := hnew c hc; omega)]
  · intro b hb
    refine ⟨(g.a2 b hb).1, (g.a2 b hb).2.1, fun hh => ?_⟩
    have := hnew b hh
    have := g.lt hf (.inr (.inr (.inl hb)))
    omega
  · intro b hb
    have := hnew b hb
    have := hf.lt g.map
    exact ⟨by show b ≠ s.w; omega, by show b ≠ s.mb; omega⟩

end A
end Go.Proofs.YtcohlhplpogopaaGreat

namespace Go.Proofs.YtcohlhplpogopaaGreat
namespace A

theorem fill_two {a b c d : V} (hb : allAtoms [c, d] = true) : fillP 0 2 (V.cells (.agg [c, d])) [a, b] (fun l => some l) = some [c, d] := by
  show cond (and (Nat.beq 2 2) (and (Nat.ble 2 2) (allAtoms [c, d]))) (some (wr [a, b] 0 [c, d])) none = _
  rw [hb]; rfl

theorem encVal_flat_keep {names : List Val} {v : Val} (h : (names.map encVal).flatten ≠ []) : keepB (names.map encVal).flatten (encVal v) = true := by
  cases names with
  | nil => exact absurd rfl h
  | cons x l => exact keepB_of ⟨int x.1, by simp [encVal], rfl⟩

theorem idxOf_not {v : Val} {l : List Val} (h : v ∉ l) : l.idxOf v = l.length := by
  induction l with
  | nil => rfl
  | cons x l ih =>
    have hx : (x == v) = false := by simpa using fun e : x = v => h (by rw [e]; exact List.mem_cons_self ..)
    rw [List.idxOf_cons, hx, cond_false, ih fun hh => h (List.mem_cons_of_mem _ hh)]; rfl

theorem exH (v : V) (h : H) : (∃ h', some (v, h) = some (v, h')) = True := eq_true ⟨_, rfl⟩
theorem ext0 (a b : V) (h : H) : extV (.tup [a, b]) 0 h = some (a, h) := rfl
theorem ext1 (a b : V) (h : H) : extV (.tup [a, b]) 1 h = some (b, h) := rfl

theorem mention_wf {h : H} {Q : Ret → H → Prop} {s : WSt} {names : List Val} {body : List UInt8} {v : Val} (hf : HF h) (g : WS h s names body) (hl : names.length ≤ 1000000000000)
    (hq : ∀ h' s', Wrote h s h' s' → WS h' s' (mention v names) body → Q (.ok (int ((names.idxOf v : Nat) : Int))) h') : WF sp2 fs 178 [.ptr s.w 0, .agg (encVal v)] h Q := by
  refine WF_enter (f := f178) rfl rfl rfl ?_
  obtain ⟨k, n⟩ := v
  obtain ⟨h1, hb, hle, hg, hn1, _⟩ := boxed (l := [int k, int n]) hf rfl
  have g1 := g.le hf hle
  have hcx : ¬ s.has h.next := fun hh => by have := g.lt hf hh; omega
  -- what is read, in heaps that hold the writer and the boxed name
  have rd : ∀ {hh : H} {nv bv : V}, hh.get s.w = some (.cells [nv, .map s.mb, bv]) → chkV (.ptr s.w 0) hh = some (.ptr s.w 0, hh) ∧ fieldAV 0 (.ptr s.w 0) hh = some (.ptr s.w 0, hh) ∧ fieldAV 1 (.ptr s.w 0) hh = some (.ptr s.w 1, hh) ∧ hh.at1 (.ptr s.w 0) = some nv ∧ hh.at1 (.ptr s.w 1) = some (.map s.mb) := by
    intro hh nv bv hgg
    exact ⟨chkV_ptr hgg, fieldAV_ptr (off := 0) (o := 0) hgg, by simpa using fieldAV_ptr (off := 0) (o := 1) hgg, by simpa using H.at1_ptr (off := 0) hgg, by simpa using H.at1_ptr (off := 1) hgg⟩
  have rb : ∀ {hh : H}, hh.get h.next = some (.cells [int k, int n]) → hh.at (.ptr h.next 0) 2 = some [int k, int n] := by
    intro hh hgg
    have := H.at_ptr (off := 0) (n := 2) hgg (Nat.le_refl _)
    exact this
  obtain ⟨c0, f0, f1, b0, b1⟩ := rd g1.cell
  have l1 := rb hg
  have hlk := lookV_enc key_val (kf := kv) g1.map (.lit (.int .i64 0)) true (k, n)
  rw [look2_pairs] at hlk
  simp only [kv, encVal, Nat.zero_add] at hlk
  have hfv : ∀ tm : TM, fillV [(0, 2, .t 28)] tm [.lit (.int .i64 0), .lit (.int .i64 0)] = fillP 0 2 (tm.nth 28).cells [.lit (.int .i64 0), .lit (.int .i64 0)] (fun l => some l) := fun _ => rfl
  by_cases hm : (k, n) ∈ names
  · rw [if_pos hm] at hlk
    simp only [lookR, cond_true] at hlk
    have hfin := hq h1 s ⟨hle.mono fun b _ hb => hb.elim, fun b hb => .inl hb, rfl⟩ (by unfold mention; rw [if_pos hm]; exact g1)
    simp (config := { maxSteps := 5000000 }) only [f178, encVal, walk, WAct, natOf_int, natOf_lit, List.nil_append, List.cons_append, List.append_nil, if_true, if_false, reduceIte, Nat.reduceEqDiff, Nat.zero_add, Nat.reduceAdd, WC_regD, WDs_nil, WDs_loud, WDs_pure, WDs_made, WDs_read, kReadW_t, kReadW_f, kRead_some, CkP_nil, CkP_cons, CkRecP_nil, CkRecP_cons, List.length_cons, List.length_nil, exH, Nat.reduceLeDiff, and_true, true_and, and_false, false_and, true_implies, false_implies, hb, c0, f1, b1, l1, hlk, litB, ext0, ext1, Bool.not_true]
    exact hfin
  · rw [if_neg hm] at hlk
    simp only [lookR, cond_true] at hlk
    have hidx : names.idxOf (k, n) = names.length := idxOf_not hm
    have hln := (show Sl h1 2 s.nv _ names.length from ⟨g1.nv.row, g1.nv.nk⟩).lenV
    -- the name behind the others
    have hnew : Le h1 (h1.new (.cells [int k, int n])) := Upd.new hle.fresh _
    have gn := g1.le hle.fresh hnew
    obtain ⟨cn, fn0, fn1, bn0, bn1⟩ := rd gn.cell
    have ln := rb (hnew.get hle.fresh hg (by simp))
    obtain ⟨h2, p1, p2, p3, p4⟩ := append_one (bytes := 16) (c := [int k, int n]) hle.fresh g1.nv rfl (by decide) rfl (by omega) (fun hne => encVal_flat_keep (v := (k, n)) hne)
    have hcxl : h.next < h1.next := by omega
    have hcx1 : ¬ OwnB s.nv h.next := fun hh => hcx (.inr (.inr (.inl hh)))
    have w2 : h2.get s.w = some (.cells [s.nv, .map s.mb, s.bv]) := p4.get hle.fresh g1.cell fun hh => (g1.a2 _ hh).1 rfl
    have m2 : h2.get s.mb = some (.mp (encM kv (pairs names 0))) := p4.get hle.fresh g1.map fun hh => (g1.a2 _ hh).2.1 rfl
    have x2 : h2.get h.next = some (.cells [int k, int n]) := p4.get hle.fresh hg hcx1
    have bv2 : Own h2 1 s.bv (body.map byteV) body.length := g1.bv.keep fun c hc => p4.same c (g1.lt hle.fresh (.inr (.inr (.inr hc)))) fun hh => (g1.a2 c hh).2.2 hc
    obtain ⟨c2, f20, _, _, _⟩ := rd w2
    -- the writer's cell
    have hk : keepB [s.nv, .map s.mb, s.bv] [.slc (h1.next + 1) 0 (names.length + 1) 2 none] = true := keepB_of ⟨.map s.mb, by simp, rfl⟩
    have s2 := store_ptr (off := 0) (n := 1) (xs := [.slc (h1.next + 1) 0 (names.length + 1) 2 none]) w2 rfl (show 0 + 1 ≤ 3 by decide) rfl hk
    rw [show wr [s.nv, .map s.mb, s.bv] 0 [V.slc (h1.next + 1) 0 (names.length + 1) 2 none] = [.slc (h1.next + 1) 0 (names.length + 1) 2 none, .map s.mb, s.bv] from rfl] at s2
    have get3 : ∀ c, (h2.set s.w (some (.cells [.slc (h1.next + 1) 0 (names.length + 1) 2 none, .map s.mb, s.bv]))).get c = if c = s.w then some (.cells [.slc (h1.next + 1) 0 (names.length + 1) 2 none, .map s.mb, s.bv]) else h2.get c := fun c => H.get_set _ _ _ _
    have fr3 := (Upd.set (S := fun _ => True) p4.fresh (some (.cells [.slc (h1.next + 1) 0 (names.length + 1) 2 none, .map s.mb, s.bv])) trivial (p4.fresh.lt w2)).fresh
    have nx3 : (h2.set s.w (some (.cells [.slc (h1.next + 1) 0 (names.length + 1) 2 none, .map s.mb, s.bv]))).next = h2.next := rfl
    generalize h2.set s.w (some (.cells [.slc (h1.next + 1) 0 (names.length + 1) 2 none, .map s.mb, s.bv])) = h3 at s2 get3 fr3 nx3
    have hwlt := g.lt hf (.inl rfl)
    have hmlt := g.lt hf (.inr (.inl rfl))
    have w3 : h3.get s.w = some (.cells [.slc (h1.next + 1) 0 (names.length + 1) 2 none, .map s.mb, s.bv]) := by rw [get3, if_pos rfl]
    have m3 : h3.get s.mb = some (.mp (encM kv (pairs names 0))) := by rw [get3, if_neg (Ne.symm g.a1)]; exact m2
    have x3 : h3.get h.next = some (.cells [int k, int n]) := by rw [get3, if_neg (by omega)]; exact x2
    obtain ⟨c3, _, f31, _, b31⟩ := rd w3
    have l3 := rb x3
    have hup := updV_enc key_val (kf := kv) m3 (k, n) (int names.length) (by rw [look2_pairs, if_neg hm])
    simp only [kv, encVal] at hup
    have hce : V.cells (.slc (h1.next + 1) 0 (names.length + 1) 2 none) = [.slc (h1.next + 1) 0 (names.length + 1) 2 none] := rfl
    have hpa : pairs (names ++ [(k, n)]) 0 = pairs names 0 ++ [((k, n), int names.length)] := by rw [pairs_append, Nat.zero_add]
    have get4 : ∀ c, (h3.set s.mb (some (.mp (encM kv (pairs names 0 ++ [((k, n), int names.length)]))))).get c = if c = s.mb then some (.mp (encM kv (pairs names 0 ++ [((k, n), int names.length)]))) else h3.get c := fun c => H.get_set _ _ _ _
    have fr4 := (Upd.set (S := fun _ => True) fr3 (some (.mp (encM kv (pairs names 0 ++ [((k, n), int names.length)])))) trivial (fr3.lt m3)).fresh
    have nx4 : (h3.set s.mb (some (.mp (encM kv (pairs names 0 ++ [((k, n), int names.length)]))))).next = h3.next := rfl
    have hup' : updV (.many [.int .i64, .int .i64]) (.map s.mb) (.agg [int k, int n]) (int names.length) h3 = some (undefV, h3.set s.mb (some (.mp (encM kv (pairs names 0 ++ [((k, n), int names.length)]))))) := hup
    generalize h3.set s.mb (some (.mp (encM kv (pairs names 0 ++ [((k, n), int names.length)])))) = h4 at hup' get4 fr4 nx4
    have hb2 := p4.le
    have hfin := hq h4 ⟨s.w, s.mb, .slc (h1.next + 1) 0 (names.length + 1) 2 none, s.bv⟩
      ⟨⟨by omega, fun b hbl hns => by
          rw [get4, if_neg fun e => hns (.inr (.inl e)), get3, if_neg fun e => hns (.inl e), p4.same b (by omega) fun hh => hns (.inr (.inr (.inl hh))), hle.same b hbl (by simp)], fr4⟩,
        fun b hbh => by
          rcases hbh with e | e | e | e
          · exact .inl (.inl e)
          · exact .inl (.inr (.inl e))
          · have : b = h1.next + 1 := e
            exact .inr (by omega)
          · exact .inl (.inr (.inr (.inr e))), rfl⟩
      (by
        unfold mention
        rw [if_neg hm]
        refine ⟨?_, ?_, ?_, ?_, g.a1, ?_, g.a3⟩
        · show h4.get s.w = _
          rw [get4, if_neg g.a1]; exact w3
        · show h4.get s.mb = _
          rw [get4, if_pos rfl, hpa]
        · have e1 : ((names ++ [(k, n)]).map encVal).flatten = (names.map encVal).flatten ++ [int k, int n] := by rw [List.map_append, List.flatten_append]; rfl
          rw [e1, List.length_append]
          refine p2.keep fun c hc => ?_
          have : c = h1.next + 1 := hc
          rw [get4, if_neg (by omega), get3, if_neg (by omega)]
        · refine bv2.keep fun c hc => ?_
          obtain ⟨q1, q2⟩ := g.a3 c hc
          rw [get4, if_neg q2, get3, if_neg q1]
        · intro b hbh
          have : b = h1.next + 1 := hbh
          refine ⟨by show b ≠ s.w; omega, by show b ≠ s.mb; omega, fun hh => ?_⟩
          have := g.lt hf (.inr (.inr (.inr hh)))
          omega)
    rw [hidx] at hfin
    simp (config := { maxSteps := 5000000 }) only [f178, encVal, walk, WAct, natOf_int, natOf_lit, List.nil_append, List.cons_append, List.append_nil, if_true, if_false, reduceIte, Nat.reduceEqDiff, Nat.zero_add, Nat.reduceAdd, WC_regD, WDs_nil, WDs_loud, WDs_pure, WDs_made, WDs_read, kReadW_t, kReadW_f, kRead_some, CkP_nil, CkP_cons, CkRecP_nil, CkRecP_cons, List.length_cons, List.length_nil, exH, Nat.reduceLeDiff, and_true, true_and, and_false, false_and, true_implies, false_implies, hb, c0, f0, f1, b0, b1, l1, hlk, litB, ext0, ext1, Bool.not_false, hln, hfv, fill_two (a := .lit (.int .i64 0)) (b := .lit (.int .i64 0)) (show allAtoms [int k, int n] = true from rfl), lits_one (es := 2) (c := [int k, int n]) (h := h1) rfl, p1, cn, fn0, fn1, bn0, bn1, ln, c2, f20, hce, s2, c3, f31, b31, l3, hup']
    exact hfin

end A
end Go.Proofs.YtcohlhplpogopaaGreat

namespace Go.Proofs.YtcohlhplpogopaaGreat
namespace A

/-- what has been written: names, and a body. -/
abbrev WD := List Val × List UInt8
def wnum (n : Nat) (d : WD) : WD := (d.1, d.2 ++ numB n)
def wname (v : Val) (d : WD) : WD := (mention v d.1, d.2 ++ numB (d.1.idxOf v))
def intN (n : Int) : Nat := if 0 ≤ n then 4 * n.toNat else 4 * (-n - 1).toNat + 2
def wval (v : Val) (d : WD) : WD := if v.1 = 1 then wnum (intN v.2) d else (mention v d.1, d.2 ++ numB (2 * d.1.idxOf v + 1))
def wvals (l : List Val) (d : WD) : WD := l.foldl (fun d v => wval v d) (wnum l.length d)

/-- there is room for k things more. -/
def Room (d : WD) (k : Nat) : Prop := d.1.length + d.2.length + 20 * k ≤ 1000000000000

theorem mention_length (v : Val) (l : List Val) : (mention v l).length ≤ l.length + 1 := by
  unfold mention; split
  · omega
  · simp
theorem idxOf_le (v : Val) (l : List Val) : l.idxOf v ≤ l.length := by
  by_cases h : v ∈ l
  · exact Nat.le_of_lt (List.idxOf_lt_length_iff.2 h)
  · rw [idxOf_not h]; exact Nat.le_refl _
theorem Room.num {d : WD} {k n : Nat} (h : Room d (k + 1)) (hn : n < 9223372036854775808) : Room (wnum n d) k := by
  unfold Room wnum at *
  simp only [List.length_append]
  have := numB_ten hn
  omega
theorem Room.name {d : WD} {k : Nat} (h : Room d (k + 1)) (v : Val) : Room (wname v d) k := by
  unfold Room wname at *
  simp only [List.length_append]
  have := numB_ten (n := d.1.idxOf v) (by have := idxOf_le v d.1; omega)
  have := mention_length v d.1
  omega
theorem intN_lt {n : Int} (h1 : -1000000000 ≤ n) (h2 : n ≤ 1000000000) : intN n < 9223372036854775808 := by
  unfold intN; split <;> omega
theorem valueB_int {v : Val} (h : valueB v = true) (h1 : v.1 = 1) : -1000000000 ≤ v.2 ∧ v.2 ≤ 1000000000 := by
  unfold valueB nameB at h
  rw [h1] at h
  simpa using h
theorem Room.val {d : WD} {k : Nat} (h : Room d (k + 1)) {v : Val} (hv : valueB v = true) : Room (wval v d) k := by
  unfold wval
  by_cases h1 : v.1 = 1
  · rw [if_pos h1]
    obtain ⟨a, b⟩ := valueB_int hv h1
    exact h.num (intN_lt a b)
  · rw [if_neg h1]
    unfold Room at *
    simp only [List.length_append]
    have := numB_ten (n := 2 * d.1.idxOf v + 1) (by have := idxOf_le v d.1; omega)
    have := mention_length v d.1
    omega
theorem Room.mono {d : WD} {k j : Nat} (h : Room d k) (hj : j ≤ k) : Room d j := by unfold Room at *; omega

theorem wrap64_in {n : Int} (h1 : -9223372036854775808 ≤ n) (h2 : n ≤ 9223372036854775807) : IntKind.i64.wrap n = n := by
  simp [IntKind.wrap, IntKind.bits, IntKind.signed]; omega

/-- the writer's objects lie from N on. -/
def Above (N : Nat) (s : WSt) : Prop := ∀ b, s.has b → N ≤ b
theorem Wrote.low {N : Nat} {h h' : H} {s s' : WSt} (g : Wrote h s h' s') (hN : N ≤ h.next) (ha : Above N s) : Low N h h' := g.upd.low hN ha
theorem Wrote.above {N : Nat} {h h' : H} {s s' : WSt} (g : Wrote h s h' s') (hN : N ≤ h.next) (ha : Above N s) : Above N s' := fun b hb => (g.new b hb).elim (ha b) (fun h1 => Nat.le_trans hN h1)
theorem Wrote.ofLe {h h' : H} (s : WSt) (g : Le h h') : Wrote h s h' s := ⟨g.mono fun b _ hb => hb.elim, fun b hb => .inl hb, rfl⟩

theorem fill_pair (a b : Int) (y z : V) : fillP 0 1 (V.cells (int a)) [y, z] (fun l => fillP 1 1 (V.cells (int b)) l (fun l => some l)) = some [int a, int b] := rfl

theorem place_wf {h : H} {Q : Ret → H → Prop} {s : WSt} {d : WD} {n : Int} {k : Nat} (hf : HF h) (g : WS h s d.1 d.2) (hl : Room d k) (hq : ∀ h' s', Wrote h s h' s' → WS h' s' (wname (4, n) d).1 (wname (4, n) d).2 → Q (.ok (.tup [])) h') :
    WF sp2 fs 133 [.ptr s.w 0, int n] h Q := by
  unfold Room at hl
  refine WF_enter (f := f133) rfl rfl rfl ?_
  have c0 := chkV_ptr (off := 0) g.cell
  have f0 := fieldAV_ptr (off := 0) (o := 0) g.cell
  have hfv : ∀ tm : TM, fillV [(0, 1, .c (.lit (.int .i64 4))), (1, 1, .t 8)] tm [.lit (.int .i64 0), .lit (.int .i64 0)] = fillP 0 1 (V.cells (int 4)) [.lit (.int .i64 0), .lit (.int .i64 0)] (fun l => fillP 1 1 (tm.nth 8).cells l (fun l => some l)) := fun _ => rfl
  simp only [f133, walk, WAct, natOf_int, natOf_lit, List.nil_append, List.cons_append, List.append_nil, if_true, if_false, reduceIte, Nat.reduceEqDiff, Nat.zero_add, Nat.reduceAdd, c0, f0, hfv, fill_pair]
  refine mention_wf (v := (4, n)) hf g (by omega) fun h1 s1 w1 g1 => ?_
  simp only [walk, WAct, natOf_int, natOf_lit, List.nil_append, List.cons_append, List.append_nil, if_true, if_false, reduceIte, Nat.reduceEqDiff, Nat.zero_add, Nat.reduceAdd]
  rw [← w1.w]
  have := idxOf_le (4, n) d.1
  refine num_wf w1.upd.fresh g1 (by omega) (by omega) fun h2 s2 w2 g2 => ?_
  simp only [walk, WAct, natOf_int, natOf_lit, List.nil_append, List.cons_append, List.append_nil, if_true, if_false, reduceIte, Nat.reduceEqDiff, Nat.zero_add, Nat.reduceAdd]
  exact hq h2 s2 (w1.trans w2) g2

theorem channel_wf {h : H} {Q : Ret → H → Prop} {s : WSt} {d : WD} {n : Int} {k : Nat} (hf : HF h) (g : WS h s d.1 d.2) (hl : Room d k) (hq : ∀ h' s', Wrote h s h' s' → WS h' s' (wname (3, n) d).1 (wname (3, n) d).2 → Q (.ok (.tup [])) h') :
    WF sp2 fs 134 [.ptr s.w 0, int n] h Q := by
  unfold Room at hl
  refine WF_enter (f := f134) rfl rfl rfl ?_
  have c0 := chkV_ptr (off := 0) g.cell
  have f0 := fieldAV_ptr (off := 0) (o := 0) g.cell
  have hfv : ∀ tm : TM, fillV [(0, 1, .c (.lit (.int .i64 3))), (1, 1, .t 8)] tm [.lit (.int .i64 0), .lit (.int .i64 0)] = fillP 0 1 (V.cells (int 3)) [.lit (.int .i64 0), .lit (.int .i64 0)] (fun l => fillP 1 1 (tm.nth 8).cells l (fun l => some l)) := fun _ => rfl
  simp only [f134, walk, WAct, natOf_int, natOf_lit, List.nil_append, List.cons_append, List.append_nil, if_true, if_false, reduceIte, Nat.reduceEqDiff, Nat.zero_add, Nat.reduceAdd, c0, f0, hfv, fill_pair]
  refine mention_wf (v := (3, n)) hf g (by omega) fun h1 s1 w1 g1 => ?_
  simp only [walk, WAct, natOf_int, natOf_lit, List.nil_append, List.cons_append, List.append_nil, if_true, if_false, reduceIte, Nat.reduceEqDiff, Nat.zero_add, Nat.reduceAdd]
  rw [← w1.w]
  have := idxOf_le (3, n) d.1
  refine num_wf w1.upd.fresh g1 (by omega) (by omega) fun h2 s2 w2 g2 => ?_
  simp only [walk, WAct, natOf_int, natOf_lit, List.nil_append, List.cons_append, List.append_nil, if_true, if_false, reduceIte, Nat.reduceEqDiff, Nat.zero_add, Nat.reduceAdd]
  exact hq h2 s2 (w1.trans w2) g2

/-- a variable that is made and set. -/
theorem alloc_store {h : H} {z c : List V} {n : Nat} (hf : HF h) (hz : z.length = n) (hc : c.length = n) (ha : allAtoms c = true) (hk : keepB z c = true) : ∃ h2, storeL n (.ptr h.next 0) c (h.new (.cells z)) = some (undefV, h2) ∧ Le h h2 ∧ h2.get h.next = some (.cells c) ∧ h2.next = h.next + 1 := by
  have hnew : Le h (h.new (.cells z)) := Upd.new hf _
  have s1 := store_ptr (off := 0) (n := n) (xs := c) (H.get_new_self h (.cells z)) hc (by omega) ha hk
  have hw : wr z 0 c = c := by
    rw [wr_eq _ _ _ (by omega)]
    simp [hz, hc]
  rw [hw] at s1
  exact ⟨_, s1, ⟨Nat.le_succ _, fun b hb _ => by rw [H.get_set, if_neg (by omega), H.get_new, if_neg (by omega)], (Upd.set (S := fun _ => True) hnew.fresh _ trivial (hnew.fresh.lt (H.get_new_self _ _))).fresh⟩, by rw [H.get_set, if_pos rfl], rfl⟩

def valsBody : C :=
  .seq (.reg [⟨some 14, .idxA 2 (.t 10) (.t 12), none⟩, ⟨some 15, .load (some 2) (.t 14), none⟩, ⟨some 5, .alloc [.lit (.int .i64 0), .lit (.int .i64 0)], none⟩, ⟨none, .store 2 (.t 5) (.t 15), none⟩])
    (.block 2 (.seq (.reg [⟨some 25, .fieldA 0 (.t 5), none⟩, ⟨some 26, .load none (.t 25), none⟩, ⟨some 27, .ar .neq (.t 26) (.c (.lit (.int .i64 1))), none⟩, ⟨some 24, .mov (.t 27), none⟩])
      (.cond (.t 24)
        (.regD [(.pure, ⟨some 28, .mov (.t 0), none⟩), (.pure, ⟨some 29, .mov (.t 0), none⟩), (.read 0 0, ⟨some 30, .chk (.t 29), none⟩), (.read 0 0, ⟨some 31, .fieldA 0 (.t 30), none⟩), (.read 0 0, ⟨some 32, .load (some 2) (.t 5), none⟩), (.loud true [], ⟨some 33, .call (.c (.fn (.func 178) [] [])) [.t 31, .t 32], none⟩),
          (.pure, ⟨some 34, .ar .mul (.c (.lit (.int .i64 2))) (.t 33), none⟩), (.pure, ⟨some 35, .ar .add (.t 34) (.c (.lit (.int .i64 1))), none⟩), (.loud true [], ⟨some 36, .call (.c (.fn (.func 132) [] [])) [.t 28, .t 35], none⟩)])
        (.seq (.reg [⟨some 38, .fieldA 1 (.t 5), none⟩, ⟨some 39, .load none (.t 38), none⟩, ⟨some 40, .ar .geq (.t 39) (.c (.lit (.int .i64 0))), none⟩, ⟨some 37, .mov (.t 40), none⟩])
          (.cond (.t 37)
            (.reg [⟨some 41, .mov (.t 0), none⟩, ⟨some 42, .fieldA 1 (.t 5), none⟩, ⟨some 43, .load none (.t 42), none⟩, ⟨some 44, .ar .mul (.c (.lit (.int .i64 4))) (.t 43), none⟩, ⟨some 45, .call (.c (.fn (.func 132) [] [])) [.t 41, .t 44], none⟩])
            (.reg [⟨some 16, .mov (.t 0), none⟩, ⟨some 17, .fieldA 1 (.t 5), none⟩, ⟨some 18, .load none (.t 17), none⟩, ⟨some 19, .neg (.t 18), none⟩, ⟨some 20, .ar .sub (.t 19) (.c (.lit (.int .i64 1))), none⟩, ⟨some 21, .ar .mul (.c (.lit (.int .i64 4))) (.t 20), none⟩, ⟨some 22, .ar .add (.t 21) (.c (.lit (.int .i64 2))), none⟩, ⟨some 23, .call (.c (.fn (.func 132) [] [])) [.t 16, .t 22], none⟩]))))))
theorem f135_eq : f135 = ⟨47, [], none, .seq (.reg [⟨some 6, .mov (.t 0), none⟩, ⟨some 7, .mov (.t 1), none⟩, ⟨some 8, .len .slc (.t 7), none⟩, ⟨some 9, .call (.c (.fn (.func 132) [] [])) [.t 6, .t 8], none⟩])
    (.seq (.reg [⟨some 10, .mov (.t 1), none⟩, ⟨some 11, .len .slc (.t 10), none⟩, ⟨some 12, .mov (.c (.lit (.int .i64 0))), none⟩]) (rangeLoop 0 1 13 12 11 46 valsBody))⟩ := rfl

theorem DVals.len {N : Nat} {h : H} {v : V} {l : List Val} (d : DVals N h v l) : cond (isNK .slc v) (lenV v h) none = some (int l.length, h) := by
  have := d.1.sl.lenV
  rwa [List.length_map] at this
theorem DVals.at {N : Nat} {h : H} {v : V} {l : List Val} (d : DVals N h v l) {k : Nat} {x : Val} (hk : l[k]? = some x) : ∃ p, idxAV 2 v (some k) h = some (p, h) ∧ h.at p 2 = some (encVal x) := by
  obtain ⟨p, g1, g2, _⟩ := d.1.idx (k := k) (c := encVal x) (by simp [hk])
  exact ⟨p, g1, g2⟩

/-- one value. -/
theorem val_step {h : H} {s : WSt} {d : WD} {v : Val} {k : Nat} {tm : TM} {p : V} {Q : E → St → Prop} (hf : HF h) (g : WS h s d.1 d.2) (hl : Room d (k + 1)) (hv : valueB v = true) (t0 : tm.nth 0 = .ptr s.w 0) (h1 : idxAV 2 (tm.nth 10) (natOf (tm.nth 12)) h = some (p, h)) (h2 : h.at p 2 = some (encVal v))
    (hq : ∀ tm' h' s', (∀ i, i = 0 ∨ i = 10 ∨ i = 11 ∨ i = 12 → tm'.nth i = tm.nth i) → Wrote h s h' s' → WS h' s' (wval v d).1 (wval v d).2 → Q .nor ⟨tm', [], h'⟩) : WC sp2 fs valsBody ⟨tm, [], h⟩ Q := by
  obtain ⟨kd, n⟩ := v
  have hl' := hl
  unfold Room at hl'
  obtain ⟨ha, s1, le1, ga, na⟩ := alloc_store (n := 2) (z := [.lit (.int .i64 0), .lit (.int .i64 0)]) (c := [int kd, int n]) hf rfl rfl rfl rfl
  have ns := fun hh => Nat.lt_irrefl _ (g.lt hf (b := h.next) hh)
  have g1 := g.le hf le1
  have w1 := Wrote.ofLe s le1
  have c0 := chkV_ptr (off := 0) g1.cell
  have f0 := fieldAV_ptr (off := 0) (o := 0) g1.cell
  have x0 := fieldAV_ptr (off := 0) (o := 0) ga
  have x1 := fieldAV_ptr (off := 0) (o := 1) ga
  have y0 := H.at1_ptr (off := 0) ga
  have y1 := H.at1_ptr (off := 1) ga
  have l1 := H.at_ptr (off := 0) (n := 2) ga (Nat.le_refl _)
  rw [List.drop_zero, List.take_of_length_le (show [int kd, int n].length ≤ 2 from Nat.le_refl _)] at l1
  simp only [List.getElem?_cons_zero, List.getElem?_cons_succ, Nat.zero_add] at f0 x0 x1 y0 y1
  have hce : V.cells (.agg [int kd, int n]) = [int kd, int n] := rfl
  have hev : encVal (kd, n) = [int kd, int n] := rfl
  rw [hev] at h2
  simp (config := { maxSteps := 5000000 }) only [valsBody, walk, WAct, natOf_int, natOf_lit, List.nil_append, List.cons_append, List.append_nil, if_true, if_false, reduceIte, Nat.reduceEqDiff, Nat.zero_add, Nat.reduceAdd, WC_regD, WDs_nil, WDs_loud, WDs_pure, WDs_made, WDs_read, kReadW_t, kReadW_f, kRead_some, CkP_nil, CkP_cons, CkRecP_nil, CkRecP_cons, List.length_cons, List.length_nil, exH, Nat.reduceLeDiff, and_true, true_and, and_false, false_and, true_implies, false_implies, t0, h1, h2, hce, s1, x0, y0]
  by_cases e : kd = 1
  · have e1 : decide (kd = 1) = true := by simp [e]
    have hwv : wval (kd, n) d = wnum (intN n) d := by unfold wval; rw [if_pos e]
    obtain ⟨b1, b2⟩ := valueB_int hv e
    simp only at b1 b2
    rw [hwv] at hq
    simp (config := { maxSteps := 5000000 }) only [e1, Bool.not_true, walk, WAct, natOf_int, natOf_lit, List.nil_append, List.cons_append, List.append_nil, if_true, if_false, reduceIte, Nat.reduceEqDiff, Nat.zero_add, Nat.reduceAdd, WC_regD, WDs_nil, WDs_loud, WDs_pure, WDs_made, WDs_read, kReadW_t, kReadW_f, kRead_some, CkP_nil, CkP_cons, CkRecP_nil, CkRecP_cons, List.length_cons, List.length_nil, exH, Nat.reduceLeDiff, and_true, true_and, and_false, false_and, true_implies, false_implies, x1, y1]
    by_cases e2 : 0 ≤ n
    · have e3 : decide (0 ≤ n) = true := by simp [e2]
      have hw : IntKind.i64.wrap (4 * n) = ((intN n : Nat) : Int) := by
        rw [wrap64_in (by omega) (by omega)]
        unfold intN; rw [if_pos e2]; omega
      simp (config := { maxSteps := 5000000 }) only [e3, walk, WAct, natOf_int, natOf_lit, List.nil_append, List.cons_append, List.append_nil, if_true, if_false, reduceIte, Nat.reduceEqDiff, Nat.zero_add, Nat.reduceAdd, x1, y1, hw, t0]
      refine num_wf le1.fresh g1 (intN_lt b1 b2) (by omega) fun h2 s2 w2 g2 => ?_
      simp (config := { maxSteps := 5000000 }) only [walk, WAct, natOf_int, natOf_lit, List.nil_append, List.cons_append, List.append_nil, if_true, if_false, reduceIte, Nat.reduceEqDiff, Nat.zero_add, Nat.reduceAdd]
      refine hq _ _ _ ?_ (w1.trans w2) g2
      rintro i (rfl | rfl | rfl | rfl) <;> simp (config := { maxSteps := 5000000 }) only [walk, WAct, natOf_int, natOf_lit, List.nil_append, List.cons_append, List.append_nil, if_true, if_false, reduceIte, Nat.reduceEqDiff, Nat.zero_add, Nat.reduceAdd]
    · have e3 : decide (0 ≤ n) = false := by simp; omega
      have hw1 : IntKind.i64.wrap (0 - n) = -n := by rw [wrap64_in (by omega) (by omega)]; omega
      have hw2 : IntKind.i64.wrap (-n - 1) = -n - 1 := wrap64_in (by omega) (by omega)
      have hw3 : IntKind.i64.wrap (4 * (-n - 1)) = 4 * (-n - 1) := wrap64_in (by omega) (by omega)
      have hw4 : IntKind.i64.wrap (4 * (-n - 1) + 2) = ((intN n : Nat) : Int) := by
        rw [wrap64_in (by omega) (by omega)]
        unfold intN; rw [if_neg e2]; omega
      simp (config := { maxSteps := 5000000 }) only [e3, walk, WAct, natOf_int, natOf_lit, List.nil_append, List.cons_append, List.append_nil, if_true, if_false, reduceIte, Nat.reduceEqDiff, Nat.zero_add, Nat.reduceAdd, x1, y1, hw1, hw2, hw3, hw4, t0]
      refine num_wf le1.fresh g1 (intN_lt b1 b2) (by omega) fun h2 s2 w2 g2 => ?_
      simp (config := { maxSteps := 5000000 }) only [walk, WAct, natOf_int, natOf_lit, List.nil_append, List.cons_append, List.append_nil, if_true, if_false, reduceIte, Nat.reduceEqDiff, Nat.zero_add, Nat.reduceAdd]
      refine hq _ _ _ ?_ (w1.trans w2) g2
      rintro i (rfl | rfl | rfl | rfl) <;> simp (config := { maxSteps := 5000000 }) only [walk, WAct, natOf_int, natOf_lit, List.nil_append, List.cons_append, List.append_nil, if_true, if_false, reduceIte, Nat.reduceEqDiff, Nat.zero_add, Nat.reduceAdd]
  · have e1 : decide (kd = 1) = false := by simp [e]
    have hwv : wval (kd, n) d = (mention (kd, n) d.1, d.2 ++ numB (2 * d.1.idxOf (kd, n) + 1)) := by unfold wval; rw [if_neg e]
    rw [hwv] at hq
    have hix := idxOf_le (kd, n) d.1
    simp (config := { maxSteps := 5000000 }) only [e1, Bool.not_false, walk, WAct, natOf_int, natOf_lit, List.nil_append, List.cons_append, List.append_nil, if_true, if_false, reduceIte, Nat.reduceEqDiff, Nat.zero_add, Nat.reduceAdd, WC_regD, WDs_nil, WDs_loud, WDs_pure, WDs_made, WDs_read, kReadW_t, kReadW_f, kRead_some, CkP_nil, CkP_cons, CkRecP_nil, CkRecP_cons, List.length_cons, List.length_nil, exH, Nat.reduceLeDiff, and_true, true_and, and_false, false_and, true_implies, false_implies, t0, c0, f0, l1]
    refine mention_wf (v := (kd, n)) le1.fresh g1 (by omega) fun h2 s2 w2 g2 => ?_
    have hw1 : IntKind.i64.wrap (2 * ((d.1.idxOf (kd, n) : Nat) : Int)) = ((2 * d.1.idxOf (kd, n) : Nat) : Int) := by rw [wrap64_in (by omega) (by omega)]; omega
    have hw2 : IntKind.i64.wrap (((2 * d.1.idxOf (kd, n) : Nat) : Int) + 1) = ((2 * d.1.idxOf (kd, n) + 1 : Nat) : Int) := by rw [wrap64_in (by omega) (by omega)]; omega
    simp (config := { maxSteps := 5000000 }) only [walk, WAct, natOf_int, natOf_lit, List.nil_append, List.cons_append, List.append_nil, if_true, if_false, reduceIte, Nat.reduceEqDiff, Nat.zero_add, Nat.reduceAdd, WC_regD, WDs_nil, WDs_loud, WDs_pure, WDs_made, WDs_read, kReadW_t, kReadW_f, kRead_some, CkP_nil, CkP_cons, CkRecP_nil, CkRecP_cons, List.length_cons, List.length_nil, exH, Nat.reduceLeDiff, and_true, true_and, and_false, false_and, true_implies, false_implies, t0, hw1, hw2]
    rw [← w2.w]
    refine num_wf w2.upd.fresh g2 (by omega) (by omega) fun h3 s3 w3 g3 => ?_
    simp (config := { maxSteps := 5000000 }) only [walk, WAct, natOf_int, natOf_lit, List.nil_append, List.cons_append, List.append_nil, if_true, if_false, reduceIte, Nat.reduceEqDiff, Nat.zero_add, Nat.reduceAdd, WC_regD, WDs_nil, WDs_loud, WDs_pure, WDs_made, WDs_read, kReadW_t, kReadW_f, kRead_some, CkP_nil, CkP_cons, CkRecP_nil, CkRecP_cons, List.length_cons, List.length_nil, exH, Nat.reduceLeDiff, and_true, true_and, and_false, false_and, true_implies, false_implies, t0, c0, f0, l1]
    refine hq _ _ _ ?_ ((w1.trans w2).trans w3) g3
    rintro i (rfl | rfl | rfl | rfl) <;> simp (config := { maxSteps := 5000000 }) only [walk, WAct, natOf_int, natOf_lit, List.nil_append, List.cons_append, List.append_nil, if_true, if_false, reduceIte, Nat.reduceEqDiff, Nat.zero_add, Nat.reduceAdd]

theorem vals_wf {N : Nat} {h : H} {Q : Ret → H → Prop} {s : WSt} {d : WD} {sv : V} {l : List Val} {k : Nat} (hf : HF h) (g : WS h s d.1 d.2) (hN : N ≤ h.next) (ha : Above N s) (hd : DVals N h sv l) (hlen : l.length ≤ most) (hv : l.all valueB = true) (hl : Room d (k + l.length + 1))
    (hq : ∀ h' s', Wrote h s h' s' → WS h' s' (wvals l d).1 (wvals l d).2 → Q (.ok (.tup [])) h') : WF sp2 fs 135 [.ptr s.w 0, sv] h Q := by
  have hm : most = 1000000 := rfl
  refine WF_enter (f := f135) rfl rfl rfl ?_
  rw [f135_eq]
  have hln := hd.len
  have hl0 := hl
  unfold Room at hl0
  simp only [walk, WAct, natOf_int, natOf_lit, List.nil_append, List.cons_append, List.append_nil, if_true, if_false, reduceIte, Nat.reduceEqDiff, Nat.zero_add, Nat.reduceAdd, hln]
  refine num_wf hf g (by omega) (by omega) fun h1 s1 w1 g1 => ?_
  have hd1 := hd.move (w1.low hN ha)
  have hln1 := hd1.len
  simp only [walk, WAct, natOf_int, natOf_lit, List.nil_append, List.cons_append, List.append_nil, if_true, if_false, reduceIte, Nat.reduceEqDiff, Nat.zero_add, Nat.reduceAdd, hln1]
  have hfold : ∀ j, j ≤ l.length → Room ((l.take j).foldl (fun d v => wval v d) (wnum l.length d)) (k + (l.length - j)) := by
    intro j
    induction j with
    | zero => intro _; exact (hl.num (by omega) : Room (wnum l.length d) (k + l.length))
    | succ j ih =>
      intro hj
      have hx := List.getElem?_eq_getElem (show j < l.length by omega)
      rw [take_succ' hx, List.foldl_append]
      have h2 := ih (by omega)
      rw [show k + (l.length - j) = k + (l.length - (j + 1)) + 1 from by omega] at h2
      exact h2.val (List.all_eq_true.1 hv _ (List.getElem_mem _))
  refine WC_range (N := l.length) (J := fun j st => st.tm.nth 12 = int j ∧ st.tm.nth 11 = int l.length ∧ st.tm.nth 10 = sv ∧ st.tm.nth 0 = .ptr s.w 0 ∧ st.df = [] ∧ ∃ s', Wrote h s st.h s' ∧ WS st.h s' ((l.take j).foldl (fun d v => wval v d) (wnum l.length d)).1 ((l.take j).foldl (fun d v => wval v d) (wnum l.length d)).2) (by omega) (by decide) ?_ ?_ ?_ (by decide) ?_ ?_
  · simp only [walk, WAct, natOf_int, natOf_lit, List.nil_append, List.cons_append, List.append_nil, if_true, if_false, reduceIte, Nat.reduceEqDiff, Nat.zero_add, Nat.reduceAdd]
    exact ⟨rfl, trivial, trivial, trivial, trivial, s1, w1, g1⟩
  · rintro j st ⟨h1, h2, _⟩; exact ⟨h1, h2⟩
  · rintro j ⟨tm, df, hh⟩ v ⟨h1, h2, h3, h4, h5, h6⟩
    simp only [walk, WAct, natOf_int, natOf_lit, List.nil_append, List.cons_append, List.append_nil, if_true, if_false, reduceIte, Nat.reduceEqDiff, Nat.zero_add, Nat.reduceAdd]
    exact ⟨h1, h2, h3, h4, h5, h6⟩
  · rintro ⟨tm, df, hh⟩ ⟨h1, h2, h3, h4, h5, s', h6, h7⟩
    simp only at h5 h6 h7
    subst h5
    simp only [walk, WAct, natOf_int, natOf_lit, List.nil_append, List.cons_append, List.append_nil, if_true, if_false, reduceIte, Nat.reduceEqDiff, Nat.zero_add, Nat.reduceAdd]
    rw [List.take_of_length_le (Nat.le_refl _)] at h7
    exact hq hh s' h6 h7
  · rintro j ⟨tm, df, hh⟩ hj ⟨t1, t2, t3, t4, h5, s', h6, h7⟩
    simp only at t1 t2 t3 t4 h5 h6 h7
    subst h5
    have hx := List.getElem?_eq_getElem hj
    have hvx := List.all_eq_true.1 hv _ (List.getElem_mem hj)
    generalize l[j] = x at hx hvx
    obtain ⟨p, g1, g2⟩ := (hd.move (h6.low hN ha)).at hx
    have hfit := hfold j (by omega)
    rw [show k + (l.length - j) = k + (l.length - (j + 1)) + 1 from by omega] at hfit
    refine val_step (v := x) h6.upd.fresh h7 hfit hvx (by rw [t4, h6.w]) (by rw [t3, t1, natOf_int]; exact g1) g2 fun tm' h' s'' hsame hw hs => ?_
    simp only [walk, WAct, natOf_int, natOf_lit, List.nil_append, List.cons_append, List.append_nil, if_true, if_false, reduceIte, Nat.reduceEqDiff, Nat.zero_add, Nat.reduceAdd, hsame 12 (by simp), hsame 11 (by simp), hsame 10 (by simp), hsame 0 (by simp), t1, t2, t3, t4]
    refine ⟨trivial, trivial, trivial, trivial, trivial, trivial, s'', h6.trans hw, ?_⟩
    rw [take_succ' hx, List.foldl_append]
    exact hs

end A
end Go.Proofs.YtcohlhplpogopaaGreat

