/-
  package wire: the check sum, the head, the end. (No statement of the seat is proved here.)
-/
import Derived.Test.YtcohlhplpogopaaGreatWc
set_option linter.unusedSimpArgs false
set_option linter.unusedVariables false
namespace Go.Proofs.YtcohlhplpogopaaGreat
namespace A

abbrev u16 (n : Int) : V := .lit (.int .u16 n)

/- loops over numbers from 0 to below a fixed one -/
def rangeLoopC (id0 id1 tc ti t' : Nat) (n : Int) (body : C) : C :=
  .block id0 (.loop (.seq (.reg [⟨some tc, .ar .lss (.t ti) (.c (.lit (.int .i64 n))), none⟩]) (.seq (.cond (.t tc) .skip (.exit id0)) (.seq (.block id1 body) (.reg [⟨some t', .ar .add (.t ti) (.c (.lit (.int .i64 1))), none⟩, ⟨some ti, .mov (.t t'), none⟩])))))

theorem WC_rangeC {sp : Sp} {fs : Fs} {id0 id1 tc ti t' : Nat} {body : C} {n : Int} {N : Nat} {J : Nat → St → Prop} {Q : E → St → Prop} {st : St} (hn : n = N) (hN : N ≤ 140737488355328)
    (h0 : J 0 st) (hti : ∀ k st, J k st → st.tm.nth ti = int k)
    (htc : ∀ k st v, J k st → J k ⟨st.tm.put tc v, st.df, st.h⟩) (hne : tc ≠ ti ∧ t' ≠ ti)
    (hexit : ∀ st, J N st → Q .nor st)
    (hbody : ∀ k st, k < N → J k st → WC sp fs body st fun e st' => match e with
      | .nor => st'.tm.nth ti = int k ∧ J (k + 1) ⟨(st'.tm.put t' (int ((k + 1 : Nat) : Int))).put ti (int ((k + 1 : Nat) : Int)), st'.df, st'.h⟩
      | _ => False) :
    WC sp fs (rangeLoopC id0 id1 tc ti t' n body) st Q := by
  subst hn
  show WR sp fs (.loop _) st (kBlock id0 Q)
  refine WR_loop (fun m st => ∃ k, m = N - k ∧ k ≤ N ∧ J k st) ?_ (N - 0) st ⟨0, rfl, Nat.zero_le _, h0⟩
  rintro m st ⟨k, rfl, hk, hJ⟩
  have e1 := hti k st hJ
  have hJ1 := htc k st
  simp only [WC_seq, WC_reg, WOps_cons, WOps_nil, WStep_eq, wanted_none, kWant_t, WAct, stepO_ar, X.ev_t, X.ev_c, e1, ar_lss, okV_some', kVal_some, setD_some, kSeq_nor, WC_cond, T.nth_put, if_true, WC_block]
  by_cases hlt : k < N
  · have hd : decide ((k : Int) < (N : Int)) = true := by simp; exact hlt
    rw [hd, kCond_t]
    simp only [WC_skip, kSeq_nor]
    have hb := hbody k _ hlt (hJ1 (bool true) hJ)
    have hw : IntKind.i64.wrap ((k : Int) + 1) = ((k + 1 : Nat) : Int) := by rw [show (k : Int) + 1 = ((k + 1 : Nat) : Int) from rfl]; exact wrap_lt (by omega)
    refine WC_mono hb ?_
    intro e st' he
    cases e with
    | nor =>
      obtain ⟨g1, g2⟩ := he
      simp only [kBlock_nor, kSeq_nor, WC_reg, WOps_cons, WOps_nil, WStep_eq, wanted_none, kWant_t, WAct, stepO_ar, stepO_mov, X.ev_t, X.ev_c, g1, ar_add, okV_some', kVal_some, setD_some, T.nth_put, if_true, hw]
      exact ⟨N - (k + 1), by omega, k + 1, rfl, hlt, g2⟩
    | ret => exact he.elim
    | ex i => exact he.elim
    | pan v => exact he.elim
  · have hd : decide ((k : Int) < (N : Int)) = false := by simp; omega
    rw [hd, kCond_f]
    obtain rfl : k = N := by omega
    simp only [WC_exit, kSeq_ex, kBlock_ex, if_true]
    exact hexit _ (hJ1 _ hJ)

/- numbers of sixteen and of eight bits -/
theorem wrap16 {n : Nat} (hn : n < 65536) : IntKind.u16.wrap (n : Int) = n := by
  simp [IntKind.wrap, IntKind.bits, IntKind.signed]; omega
theorem wrap8m (n : Nat) : IntKind.u8.wrap (n : Int) = ((n % 256 : Nat) : Int) := by
  simp [IntKind.wrap, IntKind.bits, IntKind.signed]
theorem wrap16m (n : Nat) : IntKind.u16.wrap (n : Int) = ((n % 65536 : Nat) : Int) := by
  simp [IntKind.wrap, IntKind.bits, IntKind.signed]
theorem shrN (k k' : IntKind) (n s : Nat) (hs : s ≤ k.bits) : ar .shr (.lit (.int k (n : Int))) (.lit (.int k' (s : Int))) = some (.lit (.int k ((n / 2 ^ s : Nat) : Int))) := by
  show cond (ltI (s : Int) 0) none (some (litI k ((n : Int).fdiv (2 ^ (Nat.min (s : Int).toNat k.bits))))) = _
  have h1 : ltI (s : Int) 0 = false := rfl
  have h2 : Nat.min (s : Int).toNat k.bits = s := by
    show min s k.bits = s
    omega
  rw [h1, h2]
  show some (litI k ((n : Int).fdiv (2 ^ s))) = _
  have : (n : Int).fdiv (2 ^ s) = ((n / 2 ^ s : Nat) : Int) := by
    have h3 : (2 : Int) ^ s = ((2 ^ s : Nat) : Int) := by simp
    rw [h3, Int.fdiv_eq_ediv_of_nonneg _ (Int.natCast_nonneg _)]
    exact (Int.natCast_ediv _ _).symm
  rw [this]; rfl
theorem shr15 (n : Nat) : ar .shr (u16 n) (.lit (.int .u64 15)) = some (u16 ((n / 32768 : Nat) : Int)) := shrN .u16 .u64 n 15 (by decide)
theorem shr8 (n : Nat) : ar .shr (u16 n) (.lit (.int .u64 8)) = some (u16 ((n / 256 : Nat) : Int)) := shrN .u16 .u64 n 8 (by decide)
theorem shl1 (n : Nat) : ar .shl (u16 n) (.lit (.int .u64 1)) = some (u16 ((n * 2 % 65536 : Nat) : Int)) := by
  show some (litI .u16 (wrapK .u16 (Int.mul (n : Int) (2 ^ (Nat.min 1 16))))) = _
  rw [wrapK_eq]
  have : Int.mul (n : Int) (2 ^ (Nat.min 1 16)) = ((n * 2 : Nat) : Int) := by
    show (n : Int) * 2 = _
    omega
  rw [this, wrap16m]; rfl
theorem toU8_nat {n : Nat} (h : n < 256) : toU .u8 (n : Int) = n := by
  unfold toU
  show (((n : Int) % (2 ^ 8 : Int)).toNat) = n
  omega
theorem toU16_nat {n : Nat} (h : n < 65536) : toU .u16 (n : Int) = n := by
  unfold toU
  show (((n : Int) % (2 ^ 16 : Int)).toNat) = n
  omega
theorem and1 {n : Nat} (h : n < 256) : ar .and (u8 n) (u8 1) = some (u8 ((n % 2 : Nat) : Int)) := by
  rw [ar_int _ _ _ _ rfl]
  show some (litI .u8 (wrapK .u8 (Int.ofNat (Nat.land (toU .u8 (n : Int)) (toU .u8 1))))) = _
  rw [wrapK_eq, toU8_nat h, show toU .u8 1 = 1 from by decide]
  have : Nat.land n 1 = n % 2 := Nat.and_one_is_mod n
  rw [this]
  show some (u8 (IntKind.u8.wrap ((n % 2 : Nat) : Int))) = _
  rw [wrap8 (by omega)]
theorem xorP {n : Nat} (h : n < 65536) : ar .xor (u16 n) (u16 4129) = some (u16 ((n ^^^ 4129 : Nat) : Int)) := by
  rw [ar_int _ _ _ _ rfl]
  show some (litI .u16 (wrapK .u16 (Int.ofNat (Nat.xor (toU .u16 (n : Int)) (toU .u16 4129))))) = _
  rw [wrapK_eq, toU16_nat h, show toU .u16 4129 = 4129 from by decide]
  show some (u16 (IntKind.u16.wrap ((n ^^^ 4129 : Nat) : Int))) = _
  rw [wrap16 (Nat.xor_lt_two_pow (n := 16) h (by decide))]

/- the check sum -/
def crcBit (r x i : Nat) : Nat := if r / 32768 = x / 2 ^ (7 - i) % 2 then r * 2 % 65536 else (r * 2 % 65536) ^^^ 4129
def crcBits (r x k : Nat) : Nat := (List.range k).foldl (fun r i => crcBit r x i) r
def crc (bs : List UInt8) : Nat := bs.foldl (fun r b => crcBits r b.toNat 8) 65535
theorem crcBit_lt (r x i : Nat) : crcBit r x i < 65536 := by
  unfold crcBit; split
  · omega
  · exact Nat.xor_lt_two_pow (n := 16) (by omega) (by decide)
theorem crcBits_succ (r x k : Nat) : crcBits r x (k + 1) = crcBit (crcBits r x k) x k := by
  unfold crcBits; rw [List.range_succ, List.foldl_append]; rfl
theorem crcBits_lt {r x : Nat} (hr : r < 65536) : ∀ k, crcBits r x k < 65536
  | 0 => hr
  | k + 1 => by rw [crcBits_succ]; exact crcBit_lt _ _ _
theorem crc_lt' : ∀ (l : List UInt8) (r : Nat), r < 65536 → l.foldl (fun r b => crcBits r b.toNat 8) r < 65536
  | [], r, h => h
  | b :: l, r, h => crc_lt' l _ (crcBits_lt h 8)
theorem crc_lt (l : List UInt8) : crc l < 65536 := crc_lt' l _ (by decide)
def sumB (bs : List UInt8) : List UInt8 := [UInt8.ofNat (crc bs / 256), UInt8.ofNat (crc bs % 256)]

def crcBody : C :=
  .seq (.reg [⟨some 16, .mov (.t 14), none⟩, ⟨some 6, .mov (.t 16), none⟩])
    (.seq (.reg [⟨some 17, .mov (.t 3), none⟩, ⟨some 18, .ar .shr (.t 17) (.c (.lit (.int .u64 15))), none⟩, ⟨some 19, .mov (.t 5), none⟩, ⟨some 20, .mov (.t 6), none⟩, ⟨some 21, .ar .sub (.c (.lit (.int .i64 7))) (.t 20), none⟩, ⟨some 22, .ar .shr (.t 19) (.t 21), none⟩, ⟨some 23, .ar .and (.t 22) (.c (.lit (.int .u8 1))), none⟩, ⟨some 24, .conv .u16 (.t 23), none⟩, ⟨some 25, .ar .neq (.t 18) (.t 24), none⟩, ⟨some 7, .mov (.t 25), none⟩])
      (.seq (.reg [⟨some 26, .mov (.t 3), none⟩, ⟨some 27, .ar .shl (.t 26) (.c (.lit (.int .u64 1))), none⟩, ⟨some 3, .mov (.t 27), none⟩])
        (.seq (.reg [⟨some 28, .mov (.t 7), none⟩])
          (.cond (.t 28) (.reg [⟨some 29, .mov (.t 3), none⟩, ⟨some 30, .ar .xor (.t 29) (.c (.lit (.int .u16 4129))), none⟩, ⟨some 3, .mov (.t 30), none⟩]) .skip))))
def sumBody : C :=
  .seq (.reg [⟨some 12, .idxA 1 (.t 8) (.t 10), none⟩, ⟨some 13, .load none (.t 12), none⟩, ⟨some 5, .mov (.t 13), none⟩])
    (.seq (.reg [⟨some 14, .mov (.c (.lit (.int .i64 0))), none⟩]) (rangeLoopC 2 3 15 14 31 8 crcBody))
theorem f138_eq : f138 = ⟨39, [.tmp 2], none, .seq (.reg [⟨some 2, .mov (.c (.lit (.slice none 0 0))), none⟩])
    (.seq (.reg [⟨some 3, .mov (.c (.lit (.int .u16 65535))), none⟩])
      (.seq (.seq (.reg [⟨some 8, .mov (.t 0), none⟩, ⟨some 9, .len .slc (.t 8), none⟩, ⟨some 10, .mov (.c (.lit (.int .i64 0))), none⟩]) (rangeLoop 0 1 11 10 9 32 sumBody))
        (.seq (.reg [⟨some 33, .mov (.t 3), none⟩, ⟨some 34, .ar .shr (.t 33) (.c (.lit (.int .u64 8))), none⟩, ⟨some 35, .conv .u8 (.t 34), none⟩, ⟨some 36, .mov (.t 3), none⟩, ⟨some 37, .conv .u8 (.t 36), none⟩, ⟨some 38, .lits 1 2 [.lit (.int .u8 0), .lit (.int .u8 0)] [(0, 1, .t 35), (1, 1, .t 37)], none⟩, ⟨some 2, .mov (.t 38), none⟩]) .ret)))⟩ := rfl

theorem lits_two {es : Nat} {c : List V} {h : H} (ha : allAtoms c = true) : litsL es 2 (some c) h = some (.slc h.next 0 2 es (some 2), h.new (.cells c)) := by
  show cond (allAtoms c) (some (_, _)) none = _
  rw [ha]; rfl
theorem fill_u8s (a b : Int) : fillP 0 1 (V.cells (u8 a)) [.lit (.int .u8 0), .lit (.int .u8 0)] (fun l => fillP 1 1 (V.cells (u8 b)) l (fun l => some l)) = some [u8 a, u8 b] := rfl

theorem crc_step {tm : TM} {h : H} {r x i : Nat} {Q : E → St → Prop} (hr : r < 65536) (hx : x < 256) (hi : i < 8) (h3 : tm.nth 3 = u16 r) (h5 : tm.nth 5 = u8 x) (h14 : tm.nth 14 = int i)
    (hq : ∀ tm', (∀ j, j = 5 ∨ j = 8 ∨ j = 9 ∨ j = 10 ∨ j = 14 → tm'.nth j = tm.nth j) → tm'.nth 3 = u16 (crcBit r x i) → Q .nor ⟨tm', [], h⟩) : WC sp2 fs crcBody ⟨tm, [], h⟩ Q := by
  have hw : IntKind.i64.wrap (7 - (i : Int)) = ((7 - i : Nat) : Int) := by rw [wrap64_in (by omega) (by omega)]; omega
  have hs : ar .shr (u8 x) (int ((7 - i : Nat) : Int)) = some (u8 ((x / 2 ^ (7 - i) : Nat) : Int)) := shrN .u8 .i64 x (7 - i) (by show 7 - i ≤ 8; omega)
  have hxl : x / 2 ^ (7 - i) < 256 := Nat.lt_of_le_of_lt (Nat.div_le_self _ _) hx
  simp only [crcBody, walk, WAct, natOf_int, natOf_lit, List.nil_append, List.cons_append, List.append_nil, if_true, if_false, reduceIte, Nat.reduceEqDiff, Nat.zero_add, Nat.reduceAdd, h3, h5, h14, hw, hs, and1 hxl, wrap16 (show x / 2 ^ (7 - i) % 2 < 65536 by omega), shr15, shl1]
  by_cases e : r / 32768 = x / 2 ^ (7 - i) % 2
  · have e1 : decide (((r / 32768 : Nat) : Int) = ((x / 2 ^ (7 - i) % 2 : Nat) : Int)) = true := by rw [decide_eq_true_eq]; exact congrArg _ e
    simp only [e1, Bool.not_true, walk, WAct, natOf_int, natOf_lit, List.nil_append, List.cons_append, List.append_nil, if_true, if_false, reduceIte, Nat.reduceEqDiff, Nat.zero_add, Nat.reduceAdd]
    refine hq _ ?_ ?_
    · rintro j (rfl | rfl | rfl | rfl | rfl) <;> simp only [walk, WAct, natOf_int, natOf_lit, List.nil_append, List.cons_append, List.append_nil, if_true, if_false, reduceIte, Nat.reduceEqDiff, Nat.zero_add, Nat.reduceAdd]
    · simp only [walk, WAct, natOf_int, natOf_lit, List.nil_append, List.cons_append, List.append_nil, if_true, if_false, reduceIte, Nat.reduceEqDiff, Nat.zero_add, Nat.reduceAdd]; unfold crcBit; rw [if_pos e]
  · have e1 : decide (((r / 32768 : Nat) : Int) = ((x / 2 ^ (7 - i) % 2 : Nat) : Int)) = false := by rw [decide_eq_false_iff_not]; intro hh; exact e (Int.ofNat.inj hh)
    simp only [e1, Bool.not_false, walk, WAct, natOf_int, natOf_lit, List.nil_append, List.cons_append, List.append_nil, if_true, if_false, reduceIte, Nat.reduceEqDiff, Nat.zero_add, Nat.reduceAdd, xorP (show r * 2 % 65536 < 65536 by omega)]
    refine hq _ ?_ ?_
    · rintro j (rfl | rfl | rfl | rfl | rfl) <;> simp only [walk, WAct, natOf_int, natOf_lit, List.nil_append, List.cons_append, List.append_nil, if_true, if_false, reduceIte, Nat.reduceEqDiff, Nat.zero_add, Nat.reduceAdd]
    · simp only [walk, WAct, natOf_int, natOf_lit, List.nil_append, List.cons_append, List.append_nil, if_true, if_false, reduceIte, Nat.reduceEqDiff, Nat.zero_add, Nat.reduceAdd]; unfold crcBit; rw [if_neg e]

theorem sum_wf {h : H} {Q : Ret → H → Prop} {v : V} {bs : List UInt8} (hs : Sl h 1 v (bs.map byteV) bs.length) (hlen : bs.length ≤ 100000000000000)
    (hq : Q (.ok (.slc h.next 0 2 1 (some 2))) (h.new (.cells ((sumB bs).map byteV)))) : WF sp2 fs 138 [v] h Q := by
  refine WF_enter (f := f138) rfl rfl rfl ?_
  rw [f138_eq]
  have hln := hs.lenV
  simp only [walk, WAct, natOf_int, natOf_lit, List.nil_append, List.cons_append, List.append_nil, if_true, if_false, reduceIte, Nat.reduceEqDiff, Nat.zero_add, Nat.reduceAdd, hln]
  refine WC_range (N := bs.length) (J := fun k st => st.tm.nth 10 = int k ∧ st.tm.nth 9 = int bs.length ∧ st.tm.nth 8 = v ∧ st.tm.nth 3 = u16 (((bs.take k).foldl (fun r b => crcBits r b.toNat 8) 65535 : Nat) : Int) ∧ st.df = [] ∧ st.h = h) (by omega) (by decide) ?_ ?_ ?_ (by decide) ?_ ?_
  · simp only [walk, WAct, natOf_int, natOf_lit, List.nil_append, List.cons_append, List.append_nil, if_true, if_false, reduceIte, Nat.reduceEqDiff, Nat.zero_add, Nat.reduceAdd]
    exact ⟨rfl, trivial, trivial, rfl, trivial, trivial⟩
  · rintro j st ⟨h1, h2, _⟩; exact ⟨h1, h2⟩
  · rintro j ⟨tm, df, hh⟩ v ⟨h1, h2, h3, h4, h5⟩
    simp only [walk, WAct, natOf_int, natOf_lit, List.nil_append, List.cons_append, List.append_nil, if_true, if_false, reduceIte, Nat.reduceEqDiff, Nat.zero_add, Nat.reduceAdd]
    exact ⟨h1, h2, h3, h4, h5⟩
  · rintro ⟨tm, df, hh⟩ ⟨h1, h2, h3, h4, h5, h6⟩
    simp only at h5 h6
    subst h5 h6
    rw [List.take_of_length_le (Nat.le_refl _)] at h4
    have hc := crc_lt bs
    change tm.nth 3 = u16 ((crc bs : Nat) : Int) at h4
    have hfv : ∀ (tm : TM), fillV [(0, 1, .t 35), (1, 1, .t 37)] tm [.lit (.int .u8 0), .lit (.int .u8 0)] = fillP 0 1 (tm.nth 35).cells [.lit (.int .u8 0), .lit (.int .u8 0)] (fun l => fillP 1 1 (tm.nth 37).cells l (fun l => some l)) := fun _ => rfl
    simp only [walk, WAct, natOf_int, natOf_lit, List.nil_append, List.cons_append, List.append_nil, if_true, if_false, reduceIte, Nat.reduceEqDiff, Nat.zero_add, Nat.reduceAdd, h4, shr8, wrap8 (show crc bs / 256 < 256 by omega), wrap8m, hfv, fill_u8s]
    rw [lits_two rfl]
    simp only [walk, WAct, natOf_int, natOf_lit, List.nil_append, List.cons_append, List.append_nil, if_true, if_false, reduceIte, Nat.reduceEqDiff, Nat.zero_add, Nat.reduceAdd]
    have : (sumB bs).map byteV = [u8 ((crc bs / 256 : Nat) : Int), u8 ((crc bs % 256 : Nat) : Int)] := by
      unfold sumB
      simp only [List.map_cons, List.map_nil]
      rw [byteV_of _ (by omega), byteV_of _ (by omega)]
    rw [this] at hq
    exact hq
  · rintro k ⟨tm, df, hh⟩ hk ⟨h1, h2, h3, h4, h5, h6⟩
    simp only at h1 h2 h3 h4 h5 h6
    subst h5 h6
    have hx := List.getElem?_eq_getElem hk
    generalize bs[k] = b at hx
    obtain ⟨p, g1, _, g3⟩ := hs.idx hk
    have g4 : hh.at1 p = some (u8 (b.toNat : Int)) := by
      rw [g3 rfl, List.getElem?_map, hx]; rfl
    have hr := crc_lt' (bs.take k) 65535 (by decide)
    have hsucc : (bs.take (k + 1)).foldl (fun r b => crcBits r b.toNat 8) 65535 = crcBits ((bs.take k).foldl (fun r b => crcBits r b.toNat 8) 65535) b.toNat 8 := by rw [take_succ' hx, List.foldl_append]; rfl
    rw [hsucc]
    generalize (bs.take k).foldl (fun r b => crcBits r b.toNat 8) 65535 = r at *
    simp only [sumBody, walk, WAct, natOf_int, natOf_lit, List.nil_append, List.cons_append, List.append_nil, if_true, if_false, reduceIte, Nat.reduceEqDiff, Nat.zero_add, Nat.reduceAdd, h1, h2, h3, g1, g4]
    refine WC_rangeC (N := 8) (J := fun i st => st.tm.nth 14 = int i ∧ st.tm.nth 10 = int k ∧ st.tm.nth 9 = int bs.length ∧ st.tm.nth 8 = v ∧ st.tm.nth 5 = u8 (b.toNat : Int) ∧ st.tm.nth 3 = u16 ((crcBits r b.toNat i : Nat) : Int) ∧ st.df = [] ∧ st.h = hh) rfl (by decide) ?_ ?_ ?_ (by decide) ?_ ?_
    · simp only [walk, WAct, natOf_int, natOf_lit, List.nil_append, List.cons_append, List.append_nil, if_true, if_false, reduceIte, Nat.reduceEqDiff, Nat.zero_add, Nat.reduceAdd, h1, h2, h3, h4]
      exact ⟨rfl, trivial, trivial, trivial, trivial, rfl, trivial, trivial⟩
    · rintro j st ⟨h1, _⟩; exact h1
    · rintro j ⟨tm, df, hh⟩ v ⟨h1, h2, h3, h4, h5, h6⟩
      simp only [walk, WAct, natOf_int, natOf_lit, List.nil_append, List.cons_append, List.append_nil, if_true, if_false, reduceIte, Nat.reduceEqDiff, Nat.zero_add, Nat.reduceAdd]
      exact ⟨h1, h2, h3, h4, h5, h6⟩
    · rintro ⟨tm', df', hh'⟩ ⟨t1, t2, t3, t4, t5, t6, t7, t8⟩
      simp only at t1 t2 t3 t4 t5 t6 t7 t8
      subst t7 t8
      simp only [walk, WAct, natOf_int, natOf_lit, List.nil_append, List.cons_append, List.append_nil, if_true, if_false, reduceIte, Nat.reduceEqDiff, Nat.zero_add, Nat.reduceAdd, t1, t2, t3, t4, t5, t6]
      exact ⟨trivial, trivial, trivial, trivial, trivial, trivial, trivial⟩
    · rintro i ⟨tm', df', hh'⟩ hi ⟨t1, t2, t3, t4, t5, t6, t7, t8⟩
      simp only at t1 t2 t3 t4 t5 t6 t7 t8
      subst t7 t8
      refine crc_step (crcBits_lt hr i) b.toNat_lt hi t6 t5 t1 fun tm'' hsame h3' => ?_
      simp only [walk, WAct, natOf_int, natOf_lit, List.nil_append, List.cons_append, List.append_nil, if_true, if_false, reduceIte, Nat.reduceEqDiff, Nat.zero_add, Nat.reduceAdd, hsame 14 (by simp), hsame 10 (by simp), hsame 9 (by simp), hsame 8 (by simp), hsame 5 (by simp), t1, t2, t3, t4, t5, h3']
      rw [crcBits_succ]
      exact ⟨trivial, trivial, trivial, trivial, trivial, trivial, rfl, trivial, trivial⟩

end A
end Go.Proofs.YtcohlhplpogopaaGreat

namespace Go.Proofs.YtcohlhplpogopaaGreat
namespace A

def nameN (v : Val) : List UInt8 := numB v.1.toNat ++ numB v.2.toNat
def headB (first : UInt8) (names : List Val) : List UInt8 := first :: numB names.length ++ (names.map nameN).flatten
def sealB (bs : List UInt8) : List UInt8 := bs ++ sumB bs
def endB (first : UInt8) (d : WD) : List UInt8 := sealB (headB first d.1 ++ d.2)

theorem nameB_nat {v : Val} (h : nameB v = true) : ∃ k n : Nat, v = ((k : Int), (n : Int)) ∧ k ≤ 4 ∧ n < 60 := by
  obtain ⟨a, b⟩ := v
  unfold nameB belowB at h
  simp only at h
  by_cases h2 : a = 2
  · rw [if_pos h2] at h
    have := of_decide_eq_true h
    exact ⟨a.toNat, b.toNat, by rw [Int.toNat_of_nonneg (by omega), Int.toNat_of_nonneg (by omega)], by omega, by omega⟩
  · rw [if_neg h2] at h
    by_cases h3 : a = 3
    · rw [if_pos h3] at h
      have := of_decide_eq_true h
      exact ⟨a.toNat, b.toNat, by rw [Int.toNat_of_nonneg (by omega), Int.toNat_of_nonneg (by omega)], by omega, by omega⟩
    · rw [if_neg h3, Bool.and_eq_true] at h
      have h4 := of_decide_eq_true h.1
      have := of_decide_eq_true h.2
      exact ⟨a.toNat, b.toNat, by rw [Int.toNat_of_nonneg (by omega), Int.toNat_of_nonneg (by omega)], by omega, by omega⟩
theorem nameN_length {v : Val} (h : nameB v = true) : (nameN v).length ≤ 20 := by
  obtain ⟨k, n, rfl, hk, hn⟩ := nameB_nat h
  unfold nameN
  have := numB_ten (n := k) (by omega)
  have := numB_ten (n := n) (by omega)
  simp only [List.length_append, Int.toNat_natCast]
  omega
theorem names_length : ∀ {l : List Val}, (∀ v, v ∈ l → nameB v = true) → ((l.map nameN).flatten).length ≤ 20 * l.length
  | [], _ => by simp
  | v :: l, h => by
    rw [List.map_cons, List.flatten_cons, List.length_append, List.length_cons]
    have := nameN_length (h v (List.mem_cons_self ..))
    have := names_length (l := l) fun w hw => h w (List.mem_cons_of_mem _ hw)
    omega

/-- a number behind bytes that are new. -/
theorem number_new {M : Nat} {h h0 : H} {Q : Ret → H → Prop} {v : V} {bs : List UInt8} {n : Nat} (hle : Le h0 h) (hM : M = h0.next) (ho : Own h 1 v (bs.map byteV) bs.length) (hnew : ∀ c, OwnB v c → M ≤ c) (hn : n < 9223372036854775808) (hl : bs.length ≤ 1000000000000)
    (hq : ∀ v' h', Le h0 h' → Upd (OwnB v) h h' → Own h' 1 v' ((bs ++ numB n).map byteV) (bs ++ numB n).length → (∀ c, OwnB v' c → h.next ≤ c) → Q (.ok v') h') : WF sp2 fs 142 [v, int n] h Q := by
  subst hM
  refine number_wf hle.fresh ho hn hl fun v' h' hu hin ho' hn' => ?_
  refine hq v' h' ⟨Nat.le_trans hle.le hu.le, fun b hb _ => ?_, hu.fresh⟩ hu ho' hn'
  rw [hu.same b (Nat.lt_of_lt_of_le hb hle.le) (fun hh => by have := hnew b hh; omega), hle.same b hb (by simp)]

def headBody : C :=
  .seq (.reg [⟨some 17, .idxA 2 (.t 13) (.t 15), none⟩, ⟨some 18, .load (some 2) (.t 17), none⟩, ⟨some 7, .alloc [.lit (.int .i64 0), .lit (.int .i64 0)], none⟩, ⟨none, .store 2 (.t 7) (.t 18), none⟩])
    (.regD [(.pure, ⟨some 19, .mov (.t 5), none⟩), (.read 0 0, ⟨some 20, .fieldA 0 (.t 7), none⟩), (.read 0 0, ⟨some 21, .load none (.t 20), none⟩), (.loud false [], ⟨some 22, .call (.c (.fn (.func 142) [] [])) [.t 19, .t 21], none⟩),
      (.read 0 1, ⟨some 23, .fieldA 1 (.t 7), none⟩), (.read 0 1, ⟨some 24, .load none (.t 23), none⟩), (.loud true [], ⟨some 25, .call (.c (.fn (.func 142) [] [])) [.t 22, .t 24], none⟩), (.pure, ⟨some 5, .mov (.t 25), none⟩)])
theorem f68_eq : f68 = ⟨28, [.tmp 4], none, .seq (.reg [⟨some 4, .mov (.c (.lit (.slice none 0 0))), none⟩])
    (.seq (.reg [⟨some 8, .mov (.t 0), none⟩, ⟨some 9, .lits 1 1 [.lit (.int .u8 0)] [(0, 1, .t 8)], none⟩, ⟨some 10, .mov (.t 1), none⟩, ⟨some 11, .len .slc (.t 10), none⟩, ⟨some 12, .call (.c (.fn (.func 142) [] [])) [.t 9, .t 11], none⟩, ⟨some 5, .mov (.t 12), none⟩])
      (.seq (.seq (.reg [⟨some 13, .mov (.t 1), none⟩, ⟨some 14, .len .slc (.t 13), none⟩, ⟨some 15, .mov (.c (.lit (.int .i64 0))), none⟩]) (rangeLoop 0 1 16 15 14 26 headBody))
        (.seq (.reg [⟨some 27, .mov (.t 5), none⟩, ⟨some 4, .mov (.t 27), none⟩]) .ret)))⟩ := rfl

/-- one name of the head. -/
theorem head_step {h h0 : H} {tm : TM} {v p : V} {bs : List UInt8} {k n : Nat} {Q : E → St → Prop} (hle : Le h0 h) (ho : Own h 1 v (bs.map byteV) bs.length) (hnew : ∀ c, OwnB v c → h0.next ≤ c) (hk : k ≤ 4) (hn : n < 60) (hl : bs.length ≤ 900000000000)
    (h5 : tm.nth 5 = v) (h1 : idxAV 2 (tm.nth 13) (natOf (tm.nth 15)) h = some (p, h)) (h2 : h.at p 2 = some [int k, int n])
    (hq : ∀ tm' h' v', (∀ j, j = 13 ∨ j = 14 ∨ j = 15 → tm'.nth j = tm.nth j) → tm'.nth 5 = v' → Le h0 h' → Own h' 1 v' ((bs ++ (numB k ++ numB n)).map byteV) (bs ++ (numB k ++ numB n)).length → (∀ c, OwnB v' c → h0.next ≤ c) → Q .nor ⟨tm', [], h'⟩) :
    WC sp2 fs headBody ⟨tm, [], h⟩ Q := by
  obtain ⟨ha, s1, le1, ga, na⟩ := alloc_store (n := 2) (z := [.lit (.int .i64 0), .lit (.int .i64 0)]) (c := [int k, int n]) hle.fresh rfl rfl rfl rfl
  have le01 : Le h0 ha := hle.trans le1
  have ho1 : Own ha 1 v (bs.map byteV) bs.length := ho.keep fun c hc => le1.same c (by
    rcases ho with ⟨rfl, _⟩ | ⟨d, cap, rfl, _, hg, _⟩
    · exact hc.elim
    · rw [show c = d from hc]; exact hle.fresh.lt hg) (by simp)
  have hcl : ∀ c, OwnB v c → c < h.next := by
    intro c hc
    rcases ho with ⟨rfl, _⟩ | ⟨d, cap, rfl, _, hg, _⟩
    · exact hc.elim
    · rw [show c = d from hc]; exact hle.fresh.lt hg
  have x0 := fieldAV_ptr (off := 0) (o := 0) ga
  have x1 := fieldAV_ptr (off := 0) (o := 1) ga
  have y0 := H.at1_ptr (off := 0) ga
  have y1 := H.at1_ptr (off := 1) ga
  simp only [List.getElem?_cons_zero, List.getElem?_cons_succ, Nat.zero_add] at x0 x1 y0 y1
  have hce : V.cells (.agg [int k, int n]) = [int k, int n] := rfl
  simp (config := { maxSteps := 5000000 }) only [headBody, walk, WAct, natOf_int, natOf_lit, List.nil_append, List.cons_append, List.append_nil, if_true, if_false, reduceIte, Nat.reduceEqDiff, Nat.zero_add, Nat.reduceAdd, WC_regD, WDs_nil, WDs_loud, WDs_pure, WDs_made, WDs_read, kReadW_t, kReadW_f, kRead_some, CkP_nil, CkP_cons, CkRecP_nil, CkRecP_cons, List.length_cons, List.length_nil, exH, Nat.reduceLeDiff, and_true, true_and, and_false, false_and, true_implies, false_implies, h1, h2, h5, hce, s1, x0, y0]
  refine number_new (n := k) le01 rfl ho1 hnew (by omega) (by omega) fun v2 hb le2 u2 o2 n2 => ?_
  have gb : hb.get h.next = some (.cells [int k, int n]) := u2.get le1.fresh ga fun hh => by have := hcl _ hh; omega
  have x01 := fieldAV_ptr (off := 0) (o := 0) gb
  have x11 := fieldAV_ptr (off := 0) (o := 1) gb
  have y01 := H.at1_ptr (off := 0) gb
  have y11 := H.at1_ptr (off := 1) gb
  simp only [List.getElem?_cons_zero, List.getElem?_cons_succ, Nat.zero_add] at x01 x11 y01 y11
  have hlen := numB_ten (n := k) (by omega)
  simp (config := { maxSteps := 5000000 }) only [walk, WAct, natOf_int, natOf_lit, List.nil_append, List.cons_append, List.append_nil, if_true, if_false, reduceIte, Nat.reduceEqDiff, Nat.zero_add, Nat.reduceAdd, WC_regD, WDs_nil, WDs_loud, WDs_pure, WDs_made, WDs_read, kReadW_t, kReadW_f, kRead_some, CkP_nil, CkP_cons, CkRecP_nil, CkRecP_cons, List.length_cons, List.length_nil, exH, Nat.reduceLeDiff, and_true, true_and, and_false, false_and, true_implies, false_implies, h1, h2, h5, x0, y0, x01, x11, y01, y11]
  refine number_new (n := n) le2 rfl o2 (fun c hc => by have := n2 c hc; have := le01.le; omega) (by omega) (by rw [List.length_append]; omega) fun v3 hc le3 u3 o3 n3 => ?_
  simp (config := { maxSteps := 5000000 }) only [walk, WAct, natOf_int, natOf_lit, List.nil_append, List.cons_append, List.append_nil, if_true, if_false, reduceIte, Nat.reduceEqDiff, Nat.zero_add, Nat.reduceAdd, WC_regD, WDs_nil, WDs_loud, WDs_pure, WDs_made, WDs_read, kReadW_t, kReadW_f, kRead_some, CkP_nil, CkP_cons, CkRecP_nil, CkRecP_cons, List.length_cons, List.length_nil, exH, Nat.reduceLeDiff, and_true, true_and, and_false, false_and, true_implies, false_implies, h1, h2, h5, x0, x1, y0, y1, x01, x11, y01, y11]
  rw [List.append_assoc] at o3
  refine hq _ _ v3 ?_ ?_ le3 o3 fun c hc => ?_
  · rintro j (rfl | rfl | rfl) <;> simp (config := { maxSteps := 5000000 }) only [walk, WAct, natOf_int, natOf_lit, List.nil_append, List.cons_append, List.append_nil, if_true, if_false, reduceIte, Nat.reduceEqDiff, Nat.zero_add, Nat.reduceAdd]
  · simp (config := { maxSteps := 5000000 }) only [walk, WAct, natOf_int, natOf_lit, List.nil_append, List.cons_append, List.append_nil, if_true, if_false, reduceIte, Nat.reduceEqDiff, Nat.zero_add, Nat.reduceAdd]
  · have := n3 c hc
    have := le2.le
    omega

theorem head_wf {h : H} {Q : Ret → H → Prop} {first : UInt8} {nv : V} {names : List Val} (hf : HF h) (ho : Own h 2 nv (names.map encVal).flatten names.length) (hnm : ∀ v, v ∈ names → nameB v = true) (hl : names.length ≤ 1000000000)
    (hq : ∀ v' h', Le h h' → Own h' 1 v' ((headB first names).map byteV) (headB first names).length → (∀ c, OwnB v' c → h.next ≤ c) → Q (.ok v') h') : WF sp2 fs 68 [byteV first, nv] h Q := by
  refine WF_enter (f := f68) rfl rfl rfl ?_
  rw [f68_eq]
  have hrows : ∀ {hh : H}, Le h hh → Rows hh 2 nv (names.map encVal) := by
    intro hh hle
    have o2 : Own hh 2 nv (names.map encVal).flatten (names.map encVal).length := by
      rw [List.length_map]
      refine ho.keep fun c hc => hle.same c ?_ (by simp)
      rcases ho with ⟨rfl, _⟩ | ⟨d, cap, rfl, _, hg, _⟩
      · exact hc.elim
      · rw [show c = d from hc]; exact hf.lt hg
    refine o2.rows (fun c hc => ?_) ?_
    · obtain ⟨x, _, rfl⟩ := List.mem_map.1 hc; rfl
    · clear o2 ho hl hq hnm
      induction names with
      | nil => rfl
      | cons x l ih => rw [List.map_cons, List.flatten_cons]; exact ih
  have hlen : ∀ {hh : H}, Le h hh → cond (isNK .slc nv) (lenV nv hh) none = some (int names.length, hh) := by
    intro hh hle
    have := (hrows hle).sl.lenV
    rwa [List.length_map] at this
  have hnw : Le h (h.new (.cells [byteV first])) := Upd.new hf _
  have hfv : ∀ tm : TM, fillV [(0, 1, .t 8)] tm [.lit (.int .u8 0)] = fillP 0 1 (tm.nth 8).cells [.lit (.int .u8 0)] (fun l => some l) := fun _ => rfl
  have hfb : fillP 0 1 (V.cells (byteV first)) [.lit (.int .u8 0)] (fun l => some l) = some [byteV first] := rfl
  have o1 : Own (h.new (.cells [byteV first])) 1 (.slc h.next 0 1 1 (some 1)) ([first].map byteV) [first].length := .inr ⟨h.next, some 1, rfl, .inr rfl, H.get_new_self _ _, rfl, Nat.one_pos, Nat.one_pos⟩
  have hl1 := hlen hnw
  simp only [walk, WAct, natOf_int, natOf_lit, List.nil_append, List.cons_append, List.append_nil, if_true, if_false, reduceIte, Nat.reduceEqDiff, Nat.zero_add, Nat.reduceAdd, hfv, hfb, lits_one (es := 1) (c := [byteV first]) (h := h) rfl, hl1]
  refine number_new (n := names.length) hnw rfl o1 (fun c hc => Nat.le_of_eq (show h.next = c from (show c = h.next from hc).symm)) (by omega) (by simp) fun v1 h1 le1 u1 ho1 hn1 => ?_
  have hl2 := hlen le1
  simp only [walk, WAct, natOf_int, natOf_lit, List.nil_append, List.cons_append, List.append_nil, if_true, if_false, reduceIte, Nat.reduceEqDiff, Nat.zero_add, Nat.reduceAdd, hl2]
  have hacc : ∀ k, k ≤ names.length → (([first] ++ numB names.length) ++ ((names.take k).map nameN).flatten).length ≤ 900000000000 := by
    intro k hk
    have := numB_ten (n := names.length) (by omega)
    have := names_length (l := names.take k) fun v hv => hnm v (List.mem_of_mem_take hv)
    rw [List.length_take] at this
    simp only [List.length_append, List.length_singleton]
    omega
  refine WC_range (N := names.length) (J := fun k st => st.tm.nth 15 = int k ∧ st.tm.nth 14 = int names.length ∧ st.tm.nth 13 = nv ∧ st.df = [] ∧ Le h st.h ∧ ∃ v', st.tm.nth 5 = v' ∧ Own st.h 1 v' ((([first] ++ numB names.length) ++ ((names.take k).map nameN).flatten).map byteV) (([first] ++ numB names.length) ++ ((names.take k).map nameN).flatten).length ∧ (∀ c, OwnB v' c → h.next ≤ c)) (by omega) (by decide) ?_ ?_ ?_ (by decide) ?_ ?_
  · simp only [walk, WAct, natOf_int, natOf_lit, List.nil_append, List.cons_append, List.append_nil, if_true, if_false, reduceIte, Nat.reduceEqDiff, Nat.zero_add, Nat.reduceAdd]
    refine ⟨rfl, trivial, trivial, trivial, le1, v1, rfl, ?_, fun c hc => ?_⟩
    · simp only [List.take_zero, List.map_nil, List.flatten_nil, List.append_nil]; exact ho1
    · have := hn1 c hc; have := hnw.le; omega
  · rintro j st ⟨h1, h2, _⟩; exact ⟨h1, h2⟩
  · rintro j ⟨tm, df, hh⟩ v ⟨h1, h2, h3, h4, h5, h6⟩
    simp only [walk, WAct, natOf_int, natOf_lit, List.nil_append, List.cons_append, List.append_nil, if_true, if_false, reduceIte, Nat.reduceEqDiff, Nat.zero_add, Nat.reduceAdd]
    exact ⟨h1, h2, h3, h4, h5, h6⟩
  · rintro ⟨tm, df, hh⟩ ⟨h1, h2, h3, h4, h5, v', h6, h7, h8⟩
    simp only at h4 h5 h6 h7
    subst h4
    simp only [walk, WAct, natOf_int, natOf_lit, List.nil_append, List.cons_append, List.append_nil, if_true, if_false, reduceIte, Nat.reduceEqDiff, Nat.zero_add, Nat.reduceAdd, h6]
    rw [List.take_of_length_le (Nat.le_refl _)] at h7
    exact hq v' hh h5 h7 h8
  · rintro k ⟨tm, df, hh⟩ hk ⟨t1, t2, t3, h4, h5, v', h6, h7, h8⟩
    simp only at t1 t2 t3 h4 h5 h6 h7
    subst h4
    have hx := List.getElem?_eq_getElem hk
    have hvx := hnm _ (List.getElem_mem hk)
    generalize names[k] = x at hx hvx
    obtain ⟨a, b, rfl, ha, hb⟩ := nameB_nat hvx
    obtain ⟨p, g1, g2, _⟩ := (hrows h5).idx (k := k) (c := encVal ((a : Int), (b : Int))) (by rw [List.getElem?_map, hx]; rfl)
    refine head_step (k := a) (n := b) h5 h7 h8 ha hb (hacc k (by omega)) h6 (by rw [t3, t1, natOf_int]; exact g1) g2 fun tm' h' v2 hsame h5' le' o' n' => ?_
    simp only [walk, WAct, natOf_int, natOf_lit, List.nil_append, List.cons_append, List.append_nil, if_true, if_false, reduceIte, Nat.reduceEqDiff, Nat.zero_add, Nat.reduceAdd, hsame 13 (by simp), hsame 14 (by simp), hsame 15 (by simp), t1, t2, t3, h5']
    refine ⟨trivial, trivial, trivial, trivial, trivial, le', v2, rfl, ?_, n'⟩
    have he : (([first] ++ numB names.length) ++ ((names.take (k + 1)).map nameN).flatten) = (([first] ++ numB names.length) ++ ((names.take k).map nameN).flatten) ++ (numB a ++ numB b) := by
      rw [take_succ' hx, List.map_append, List.flatten_append]
      simp [nameN]
    rw [← he] at o'
    exact o'

theorem bytesOf_map : ∀ l : List UInt8, bytesOf (l.map byteV) = some l
  | [] => rfl
  | b :: l => by
    rw [List.map_cons, bytesOf_cons, bytesOf_map l]
    show some (UInt8.ofNat b.toNat :: l) = _
    rw [UInt8.ofNat_toNat]

theorem sealed_wf {h : H} {Q : Ret → H → Prop} {v : V} {bs : List UInt8} (hf : HF h) (ho : Own h 1 v (bs.map byteV) bs.length) (hl : bs.length ≤ 1000000000000)
    (hq : ∀ h', Upd (OwnB v) h h' → Q (.ok (.lit (.string ⟨(sealB bs).toArray⟩))) h') : WF sp2 fs 67 [v] h Q := by
  refine WF_enter (f := f67) rfl rfl rfl ?_
  simp only [f67, walk, WAct, natOf_int, natOf_lit, List.nil_append, List.cons_append, List.append_nil, if_true, if_false, reduceIte, Nat.reduceEqDiff, Nat.zero_add, Nat.reduceAdd]
  have hown : ∀ c, OwnB v c → c < h.next := by
    intro c hc
    rcases ho with ⟨rfl, _⟩ | ⟨d, cap, rfl, _, hg, _⟩
    · exact hc.elim
    · rw [show c = d from hc]; exact hf.lt hg
  refine sum_wf (bs := bs) ⟨ho.row, ho.nk⟩ (by omega) ?_
  have hnw : Upd (OwnB v) h (h.new (.cells ((sumB bs).map byteV))) := Upd.new hf _
  have ho1 : Own (h.new (.cells ((sumB bs).map byteV))) 1 v (bs.map byteV) bs.length := ho.keep fun c hc => by rw [H.get_new_ne _ (by have := hown c hc; omega)]
  have hrow : (h.new (.cells ((sumB bs).map byteV))).row 1 (.slc h.next 0 2 1 (some 2)) = some ((sumB bs).map byteV, 2) := by
    show cond (Nat.beq 1 1) (withLen 2 (cutO ((h.new (.cells ((sumB bs).map byteV))).cells h.next) 0 (2 * 1))) none = _
    rw [Nat.beq_refl, H.cells_of (H.get_new_self _ _)]; rfl
  obtain ⟨h', g1, g2, g3, g4⟩ := append_own (bytes := 1) hnw.fresh ho1 hrow (by omega) rfl (by decide) rfl (by omega) (fun _ => keepB_bytes rfl)
  simp only [walk, WAct, natOf_int, natOf_lit, List.nil_append, List.cons_append, List.append_nil, if_true, if_false, reduceIte, Nat.reduceEqDiff, Nat.zero_add, Nat.reduceAdd, g1]
  have hr := g2.row
  rw [← List.map_append] at hr
  have hb : bstrV (.slc (h.new (.cells ((sumB bs).map byteV))).next 0 (bs.length + 2) 1 none) h' = some (.lit (.string ⟨(sealB bs).toArray⟩), h') := by
    show bstrR (h'.row 1 _) h' = _
    rw [hr]
    show okStr h' (bytesOf _) = _
    rw [bytesOf_map]; rfl
  simp only [hb, walk, WAct, natOf_int, natOf_lit, List.nil_append, List.cons_append, List.append_nil, if_true, if_false, reduceIte, Nat.reduceEqDiff, Nat.zero_add, Nat.reduceAdd]
  exact hq h' (hnw.trans g4)

theorem end_wf {h : H} {Q : Ret → H → Prop} {s : WSt} {d : WD} {first : UInt8} (hf : HF h) (g : WS h s d.1 d.2) (hnm : ∀ v, v ∈ d.1 → nameB v = true) (hl : d.1.length + d.2.length ≤ 1000000000) (hb : 0 < d.2.length)
    (hq : ∀ h', Le h h' → Q (.ok (.lit (.string ⟨(endB first d).toArray⟩))) h') : WF sp2 fs 136 [.ptr s.w 0, byteV first] h Q := by
  refine WF_enter (f := f136) rfl rfl rfl ?_
  have rd : ∀ {hh : H}, Le h hh → chkV (.ptr s.w 0) hh = some (.ptr s.w 0, hh) ∧ fieldAV 0 (.ptr s.w 0) hh = some (.ptr s.w 0, hh) ∧ fieldAV 2 (.ptr s.w 0) hh = some (.ptr s.w 2, hh) ∧ hh.at1 (.ptr s.w 0) = some s.nv ∧ hh.at1 (.ptr s.w 2) = some s.bv := by
    intro hh hle
    have hgg := (g.le hf hle).cell
    exact ⟨chkV_ptr hgg, fieldAV_ptr (off := 0) (o := 0) hgg, by simpa using fieldAV_ptr (off := 0) (o := 2) hgg, by simpa using H.at1_ptr (off := 0) hgg, by simpa using H.at1_ptr (off := 2) hgg⟩
  obtain ⟨c0, f0, f2, b0, b2⟩ := rd (Upd.refl hf)
  simp (config := { maxSteps := 5000000 }) only [f136, walk, WAct, natOf_int, natOf_lit, List.nil_append, List.cons_append, List.append_nil, if_true, if_false, reduceIte, Nat.reduceEqDiff, Nat.zero_add, Nat.reduceAdd, WC_regD, WDs_nil, WDs_loud, WDs_pure, WDs_made, WDs_read, kReadW_t, kReadW_f, kRead_some, CkP_nil, CkP_cons, CkRecP_nil, CkRecP_cons, List.length_cons, List.length_nil, exH, Nat.reduceLeDiff, and_true, true_and, and_false, false_and, true_implies, false_implies, c0, f0, b0]
  refine head_wf (first := first) hf g.nv hnm (by omega) fun v1 h1 le1 o1 n1 => ?_
  obtain ⟨c01, f01, f21, b01, b21⟩ := rd le1
  have hbv := (g.le hf le1).bv
  have hrow := hbv.row
  have hhl : (headB first d.1).length ≤ 100000000000 := by
    unfold headB
    have := numB_ten (n := d.1.length) (by omega)
    have := names_length hnm
    simp only [List.length_append, List.length_cons]
    omega
  obtain ⟨h2, p1, p2, p3, p4⟩ := append_own (bytes := 1) le1.fresh o1 hrow hb (by rw [List.length_map]; omega) (by decide) (bytes_allAtoms _) (by omega) (fun _ => keepB_bytes (allB_iff.2 fun v hv => by obtain ⟨b, _, rfl⟩ := List.mem_map.1 hv; rfl))
  have le2 : Le h h2 := ⟨Nat.le_trans le1.le p4.le, fun b hbl _ => by rw [p4.same b (Nat.lt_of_lt_of_le hbl le1.le) (fun hh => by have := n1 b hh; omega), le1.same b hbl (by simp)], p4.fresh⟩
  simp (config := { maxSteps := 5000000 }) only [walk, WAct, natOf_int, natOf_lit, List.nil_append, List.cons_append, List.append_nil, if_true, if_false, reduceIte, Nat.reduceEqDiff, Nat.zero_add, Nat.reduceAdd, WC_regD, WDs_nil, WDs_loud, WDs_pure, WDs_made, WDs_read, kReadW_t, kReadW_f, kRead_some, CkP_nil, CkP_cons, CkRecP_nil, CkRecP_cons, List.length_cons, List.length_nil, exH, Nat.reduceLeDiff, and_true, true_and, and_false, false_and, true_implies, false_implies, c01, f21, b21, p1]
  rw [← List.map_append, ← List.length_append] at p2
  rw [← List.length_append]
  refine sealed_wf p4.fresh p2 (by rw [List.length_append]; omega) fun h3 u3 => ?_
  have le3 : Le h h3 := ⟨Nat.le_trans le2.le u3.le, fun b hbl _ => by rw [u3.same b (Nat.lt_of_lt_of_le hbl le2.le) (fun hh => by have : b = h1.next := hh; have := le1.le; omega), le2.same b hbl (by simp)], u3.fresh⟩
  simp (config := { maxSteps := 5000000 }) only [walk, WAct, natOf_int, natOf_lit, List.nil_append, List.cons_append, List.append_nil, if_true, if_false, reduceIte, Nat.reduceEqDiff, Nat.zero_add, Nat.reduceAdd, WC_regD, WDs_nil, WDs_loud, WDs_pure, WDs_made, WDs_read, kReadW_t, kReadW_f, kRead_some, CkP_nil, CkP_cons, CkRecP_nil, CkRecP_cons, List.length_cons, List.length_nil, exH, Nat.reduceLeDiff, and_true, true_and, and_false, false_and, true_implies, false_implies, c0, f0, f2, b0, b2, c01, f01, f21, b01, b21]
  exact hq h3 le3

end A
end Go.Proofs.YtcohlhplpogopaaGreat

namespace Go.Proofs.YtcohlhplpogopaaGreat
namespace A

/-- room for k things more, and all names are names. -/
def OKD (d : WD) (k : Nat) : Prop := Room d k ∧ ∀ v, v ∈ d.1 → nameB v = true
theorem OKD.mono {d : WD} {k j : Nat} (h : OKD d k) (hj : j ≤ k) : OKD d j := ⟨h.1.mono hj, h.2⟩
theorem OKD.num {d : WD} {k n : Nat} (h : OKD d (k + 1)) (hn : n < 9223372036854775808) : OKD (wnum n d) k := ⟨h.1.num hn, h.2⟩
theorem mem_mention {v w : Val} {l : List Val} (h : w ∈ mention v l) : w ∈ l ∨ w = v := by
  unfold mention at h
  split at h
  · exact .inl h
  · rcases List.mem_append.1 h with h | h
    · exact .inl h
    · exact .inr (List.mem_singleton.1 h)
theorem OKD.name {d : WD} {k : Nat} (h : OKD d (k + 1)) {v : Val} (hv : nameB v = true) : OKD (wname v d) k :=
  ⟨h.1.name v, fun w hw => (mem_mention hw).elim (h.2 w) fun e => by rw [e]; exact hv⟩
theorem valueB_name {v : Val} (hv : valueB v = true) (h1 : ¬ v.1 = 1) : nameB v = true := by
  unfold valueB at hv
  rw [show decide (v.1 = 1) = false from by simpa using h1] at hv
  simpa using hv
theorem OKD.val {d : WD} {k : Nat} (h : OKD d (k + 1)) {v : Val} (hv : valueB v = true) : OKD (wval v d) k := by
  refine ⟨h.1.val hv, ?_⟩
  unfold wval
  by_cases h1 : v.1 = 1
  · rw [if_pos h1]; exact h.2
  · rw [if_neg h1]
    exact fun w hw => (mem_mention hw).elim (h.2 w) fun e => by rw [e]; exact valueB_name hv h1
theorem OKD.vals' : ∀ {l : List Val} {d : WD} {k : Nat}, OKD d (k + l.length) → l.all valueB = true → OKD (l.foldl (fun d v => wval v d) d) k
  | [], _, _, h, _ => h
  | v :: l, d, k, h, hv => by
    rw [List.all_cons, Bool.and_eq_true] at hv
    exact OKD.vals' (l := l) (OKD.val (k := k + l.length) h hv.1) hv.2
theorem OKD.vals {l : List Val} {d : WD} {k : Nat} (h : OKD d (k + l.length + 1)) (hl : l.length ≤ most) (hv : l.all valueB = true) : OKD (wvals l d) k :=
  OKD.vals' (h.num (by have : most = 1000000 := rfl; omega)) hv

/-- the writer at W, and objects that are kept. -/
def WIn (P : Nat → Prop) (W : Nat) (h0 h : H) (d : WD) : Prop :=
  ∃ s : WSt, WS h s d.1 d.2 ∧ s.w = W ∧ HF h ∧ ∀ b, P b → b < h.next ∧ ¬ s.has b ∧ h.get b = h0.get b

section
variable {P : Nat → Prop} {W : Nat} {h0 h h' : H} {d d' : WD}
theorem WIn.low {N : Nat} (g : WIn P W h0 h d) (hP : ∀ b, b < N → P b) : Low N h0 h := by
  obtain ⟨s, _, _, _, g4⟩ := g
  exact fun b hb => (g4 b (hP b hb)).2.2
theorem WIn.hf (g : WIn P W h0 h d) : HF h := by obtain ⟨_, _, _, g, _⟩ := g; exact g
theorem WIn.get (g : WIn P W h0 h d) {b : Nat} (hb : P b) : h.get b = h0.get b := by obtain ⟨_, _, _, _, g⟩ := g; exact (g b hb).2.2
theorem WIn.wrote {s s' : WSt} (hP : ∀ b, P b → b < h.next ∧ ¬ s.has b ∧ h.get b = h0.get b) (w : Wrote h s h' s') (hw : s.w = W) (g : WS h' s' d'.1 d'.2) : WIn P W h0 h' d' :=
  ⟨s', g, w.w.trans hw, w.upd.fresh, fun b hb => by
    obtain ⟨h1, h2, h3⟩ := hP b hb
    exact ⟨Nat.lt_of_lt_of_le h1 w.upd.le, w.not h1 h2, by rw [w.upd.same b h1 h2]; exact h3⟩⟩
/-- a variable more that is kept. -/
theorem WIn.more (g : WIn P W h0 h d) (hle : Le h h') (hlt : h.next < h'.next) : WIn (fun b => P b ∨ b = h.next) W h' h' d := by
  obtain ⟨s, g1, g2, g3, g4⟩ := g
  refine ⟨s, g1.le g3 hle, g2, hle.fresh, fun b hb => ?_⟩
  rcases hb with hb | rfl
  · obtain ⟨h1, h2, _⟩ := g4 b hb
    exact ⟨Nat.lt_of_lt_of_le h1 hle.le, h2, rfl⟩
  · exact ⟨hlt, fun hh => by have := g1.lt g3 hh; omega, rfl⟩
theorem WIn.less {P' : Nat → Prop} {h1 : H} (g : WIn P' W h1 h' d') (hP : ∀ b, P b → P' b ∧ h1.get b = h0.get b) : WIn P W h0 h' d' := by
  obtain ⟨s, g1, g2, g3, g4⟩ := g
  exact ⟨s, g1, g2, g3, fun b hb => by
    obtain ⟨h1, h2, h3⟩ := g4 b (hP b hb).1
    exact ⟨h1, h2, h3.trans (hP b hb).2⟩⟩

variable {Q : Ret → H → Prop} {k : Nat}
theorem num_in {n : Nat} (g : WIn P W h0 h d) (hk : OKD d k) (hn : n < 9223372036854775808) (hq : ∀ h', WIn P W h0 h' (wnum n d) → Q (.ok (.tup [])) h') : WF sp2 fs 132 [.ptr W 0, int n] h Q := by
  obtain ⟨s, g1, rfl, g3, g4⟩ := g
  have := hk.1
  unfold Room at this
  exact num_wf g3 g1 hn (by omega) fun h' s' w g' => hq h' (WIn.wrote g4 w rfl g')
theorem place_in {n : Int} (g : WIn P W h0 h d) (hk : OKD d k) (hq : ∀ h', WIn P W h0 h' (wname (4, n) d) → Q (.ok (.tup [])) h') : WF sp2 fs 133 [.ptr W 0, int n] h Q := by
  obtain ⟨s, g1, rfl, g3, g4⟩ := g
  exact place_wf g3 g1 hk.1 fun h' s' w g' => hq h' (WIn.wrote g4 w rfl g')
theorem channel_in {n : Int} (g : WIn P W h0 h d) (hk : OKD d k) (hq : ∀ h', WIn P W h0 h' (wname (3, n) d) → Q (.ok (.tup [])) h') : WF sp2 fs 134 [.ptr W 0, int n] h Q := by
  obtain ⟨s, g1, rfl, g3, g4⟩ := g
  exact channel_wf g3 g1 hk.1 fun h' s' w g' => hq h' (WIn.wrote g4 w rfl g')
end

theorem vals_wf2 {N : Nat} {h : H} {Q : Ret → H → Prop} {s : WSt} {d : WD} {sv : V} {l : List Val} {k : Nat} (hf : HF h) (g : WS h s d.1 d.2) (hN : N ≤ h.next) (ha : ∀ b, b < N → ¬ s.has b) (hd : DVals N h sv l) (hlen : l.length ≤ most) (hv : l.all valueB = true) (hl : Room d (k + l.length + 1))
    (hq : ∀ h' s', Wrote h s h' s' → WS h' s' (wvals l d).1 (wvals l d).2 → Q (.ok (.tup [])) h') : WF sp2 fs 135 [.ptr s.w 0, sv] h Q :=
  vals_wf hf g hN (fun b hb => Nat.le_of_not_lt fun hh => ha b hh hb) hd hlen hv hl hq
theorem vals_in {P : Nat → Prop} {W N : Nat} {h0 h : H} {d : WD} {Q : Ret → H → Prop} {k : Nat} {sv : V} {l : List Val} (g : WIn P W h0 h d) (hP : ∀ b, b < N → P b) (hd : DVals N h0 sv l) (hlen : l.length ≤ most) (hv : l.all valueB = true) (hl : OKD d (k + l.length + 1))
    (hq : ∀ h', WIn P W h0 h' (wvals l d) → Q (.ok (.tup [])) h') : WF sp2 fs 135 [.ptr W 0, sv] h Q := by
  have hlow := g.low hP
  obtain ⟨s, g1, rfl, g3, g4⟩ := g
  refine vals_wf2 (N := N) g3 g1 ?_ (fun b hb => (g4 b (hP b hb)).2.1) (hd.move hlow) hlen hv hl.1 fun h' s' w g' => hq h' (WIn.wrote g4 w rfl g')
  cases N with
  | zero => exact Nat.zero_le _
  | succ n => exact (g4 n (hP n (Nat.lt_succ_self n))).1

/-- a new writer. -/
theorem write_wf {h : H} {Q : Ret → H → Prop} (hf : HF h) (hq : ∀ h' s, Le h h' → (∀ b, s.has b → h.next ≤ b) → WS h' s [] [] → Q (.ok (.ptr s.w 0)) h') : WF sp2 fs 131 [] h Q := by
  refine WF_enter (f := f131) rfl rfl rfl ?_
  have l1 : Le h (h.new (.mp [])) := Upd.new hf _
  have l2 : Le (h.new (.mp [])) ((h.new (.mp [])).new (.cells [.lit (.slice none 0 0), .map h.next, .lit (.slice none 0 0)])) := Upd.new l1.fresh _
  have f1 : ∀ tm : TM, fillV [(1, 1, .t 1)] tm [.lit (.slice none 0 0), .lit (.map none)] = fillP 1 1 (tm.nth 1).cells [.lit (.slice none 0 0), .lit (.map none)] (fun l => some l) := fun _ => rfl
  have f2 : ∀ tm : TM, fillV [(0, 2, .t 2)] tm [.lit (.slice none 0 0), .lit (.map none), .lit (.slice none 0 0)] = fillP 0 2 (tm.nth 2).cells [.lit (.slice none 0 0), .lit (.map none), .lit (.slice none 0 0)] (fun l => some l) := fun _ => rfl
  have e1 : fillP 1 1 (V.cells (.map h.next)) [.lit (.slice none 0 0), .lit (.map none)] (fun l => some l) = some [.lit (.slice none 0 0), .map h.next] := rfl
  have e2 : fillP 0 2 (V.cells (.agg [.lit (.slice none 0 0), .map h.next])) [.lit (.slice none 0 0), .lit (.map none), .lit (.slice none 0 0)] (fun l => some l) = some [.lit (.slice none 0 0), .map h.next, .lit (.slice none 0 0)] := rfl
  have e3 : boxL (V.cells (.agg [.lit (.slice none 0 0), .map h.next, .lit (.slice none 0 0)])) (h.new (.mp [])) = some (.ptr (h.next + 1) 0, (h.new (.mp [])).new (.cells [.lit (.slice none 0 0), .map h.next, .lit (.slice none 0 0)])) := rfl
  simp only [f131, walk, WAct, natOf_int, natOf_lit, List.nil_append, List.cons_append, List.append_nil, if_true, if_false, reduceIte, Nat.reduceEqDiff, Nat.zero_add, Nat.reduceAdd, f1, e1, f2, e2, e3]
  refine hq _ ⟨h.next + 1, h.next, .lit (.slice none 0 0), .lit (.slice none 0 0)⟩ (l1.trans l2) ?_ ⟨?_, ?_, .inl ⟨rfl, rfl, rfl⟩, .inl ⟨rfl, rfl, rfl⟩, by show h.next + 1 ≠ h.next; omega, fun b hb => hb.elim, fun b hb => hb.elim⟩
  · rintro b (rfl | rfl | hb | hb)
    · exact Nat.le_succ _
    · exact Nat.le_refl _
    · exact hb.elim
    · exact hb.elim
  · exact H.get_new_self _ _
  · show H.get _ h.next = _
    rw [H.get_new_ne _ (show h.next ≠ (h.new (.mp [])).next from by rw [H.next_new]; omega), H.get_new_self]; rfl

end A
end Go.Proofs.YtcohlhplpogopaaGreat

