/-
  the walk of WireDamage, and how its arguments are read. (No statement of the seat is proved here.)
-/
import Derived.Test.YtcohlhplpogopaaGreatWg
import Derived.Deep.Slices
import Derived.ChangeSame
import Derived.KernelRfl
set_option linter.unusedSimpArgs false
set_option linter.unusedVariables false
namespace Go.Proofs.YtcohlhplpogopaaGreat
namespace A

theorem dmg_end {h : H} {tm : TM} {s cs : List UInt8} {B : Nat} {Q : E → St → Prop} (hf : HF h) (h3 : 3 ≤ cs.length) (hl : cs.length ≤ 80000) (hB : h.get B = some (.cells (cs.map byteV))) (hbad : cs ≠ s → ¬ goodB cs)
    (t15 : tm.nth 15 = .slc B 0 cs.length 1 none) (t14 : tm.nth 14 = str s)
    (hq : ∀ e tm' h', (e = .nor ∨ e = .ex 1) → (∀ j, j ∈ [2, 3, 10, 12, 48, 49, 50] → tm'.nth j = tm.nth j) → Le h h' → Q e ⟨tm', [], h'⟩) : WC sp2 fs dmgEnd ⟨tm, [], h⟩ Q := by
  have hbs : ∀ {hh : H}, hh.get B = some (.cells (cs.map byteV)) → bstrV (.slc B 0 cs.length 1 none) hh = some (str cs, hh) := by
    intro hh hg
    have ho : Own hh 1 (.slc B 0 cs.length 1 none) (cs.map byteV) cs.length := .inr ⟨B, none, rfl, .inl rfl, hg, by rw [List.length_map, Nat.mul_one], by omega, by rw [List.length_map]; omega⟩
    exact bstr_own ho.row (fun q => by simp)
  have b0 := hbs hB
  simp only [dmgEnd, walk, WAct, natOf_int, natOf_lit, List.nil_append, List.cons_append, List.append_nil, if_true, if_false, reduceIte, Nat.reduceEqDiff, Nat.zero_add, Nat.reduceAdd, t15, b0, t14, ar_eqlS]
  by_cases e : cs = s
  · have e1 : decide (cs = s) = true := by simpa using e
    simp only [e1, walk, WAct, natOf_int, natOf_lit, List.nil_append, List.cons_append, List.append_nil, if_true, if_false, reduceIte, Nat.reduceEqDiff, Nat.zero_add, Nat.reduceAdd]
    refine hq _ _ _ (.inr rfl) (fun j hj => ?_) (Upd.refl hf)
    simp only [List.mem_cons, List.not_mem_nil, or_false] at hj
    rcases hj with rfl | rfl | rfl | rfl | rfl | rfl | rfl <;> simp only [walk, WAct, natOf_int, natOf_lit, List.nil_append, List.cons_append, List.append_nil, if_true, if_false, reduceIte, Nat.reduceEqDiff, Nat.zero_add, Nat.reduceAdd]
  · have e1 : decide (cs = s) = false := by simpa using e
    have bad := hbad e
    simp only [e1, walk, WAct, natOf_int, natOf_lit, List.nil_append, List.cons_append, List.append_nil, if_true, if_false, reduceIte, Nat.reduceEqDiff, Nat.zero_add, Nat.reduceAdd, t15, b0]
    refine Parcel_bad hf h3 hl bad fun h1 l1 => ?_
    obtain ⟨h2, s1, l2, _, n2⟩ := alloc_store (n := 3) (z := [.lit (.slice none 0 0), .lit (.slice none 0 0), .lit (.slice none 0 0)]) (c := [.lit (.slice none 0 0), .lit (.slice none 0 0), .lit (.slice none 0 0)]) l1.fresh rfl rfl rfl rfl
    have hce : V.cells (.agg [V.lit (Value.slice none 0 0), .lit (.slice none 0 0), .lit (.slice none 0 0)]) = [.lit (.slice none 0 0), .lit (.slice none 0 0), .lit (.slice none 0 0)] := rfl
    have le2 := l1.trans l2
    have b2 := hbs (le2.get hf hB (by simp))
    simp only [walk, WAct, natOf_int, natOf_lit, List.nil_append, List.cons_append, List.append_nil, if_true, if_false, reduceIte, Nat.reduceEqDiff, Nat.zero_add, Nat.reduceAdd, ext0, ext1, hce, s1, decide_true, Bool.not_true, t15, b2]
    refine Open_bad le2.fresh h3 hl bad fun h3' l3 => ?_
    obtain ⟨h4, s2, l4, _, n4⟩ := alloc_store (n := 2) (z := [.lit (.int .i64 0), .lit (.slice none 0 0)]) (c := [.lit (.int .i64 0), .lit (.slice none 0 0)]) l3.fresh rfl rfl rfl rfl
    have hce2 : V.cells (.agg [V.lit (Value.int .i64 0), .lit (.slice none 0 0)]) = [.lit (.int .i64 0), .lit (.slice none 0 0)] := rfl
    simp only [walk, WAct, natOf_int, natOf_lit, List.nil_append, List.cons_append, List.append_nil, if_true, if_false, reduceIte, Nat.reduceEqDiff, Nat.zero_add, Nat.reduceAdd, ext0, ext1, hce2, s2, decide_true, Bool.not_true]
    refine hq _ _ _ (.inl rfl) (fun j hj => ?_) ((le2.trans l3).trans l4)
    simp only [List.mem_cons, List.not_mem_nil, or_false] at hj
    rcases hj with rfl | rfl | rfl | rfl | rfl | rfl | rfl <;> simp only [walk, WAct, natOf_int, natOf_lit, List.nil_append, List.cons_append, List.append_nil, if_true, if_false, reduceIte, Nat.reduceEqDiff, Nat.zero_add, Nat.reduceAdd]

theorem dmg_rest {h : H} {tm : TM} {s : List UInt8} {at' w : Nat} {Q : E → St → Prop} (hf : HF h) (h3 : 3 ≤ s.length) (hl : s.length ≤ 80000) (hg : goodB s) (ha : at' < 4294967296) (hw : w < 65536)
    (t14 : tm.nth 14 = str s) (t2 : tm.nth 2 = u32 at') (t3 : tm.nth 3 = u16 w)
    (hq : ∀ e tm' h', (e = .nor ∨ e = .ex 1) → (∀ j, j ∈ [2, 3, 10, 12, 48, 49, 50] → tm'.nth j = tm.nth j) → Le h h' → Q e ⟨tm', [], h'⟩) : WC sp2 fs dmgRest ⟨tm, [], h⟩ Q := by
  have l1 : Le h (h.new (.cells (s.map byteV))) := Upd.new hf _
  have w1 : IntKind.i64.wrap (at' : Int) = at' := wrap64_in (by omega) (by omega)
  have w2 : IntKind.i64.wrap (8 * (s.length : Int)) = ((8 * s.length : Nat) : Int) := by rw [wrap64_in (by omega) (by omega)]; omega
  have w3 : IntKind.i64.wrap (((8 * s.length : Nat) : Int) - 15) = ((8 * s.length - 15 : Nat) : Int) := by rw [wrap64_in (by omega) (by omega)]; omega
  have r1 := remN (a := at') (b := 8 * s.length - 15) (by omega)
  have hm : at' % (8 * s.length - 15) ≤ at' := Nat.mod_le _ _
  have hm2 : at' % (8 * s.length - 15) < 8 * s.length - 15 := Nat.mod_lt _ (by omega)
  have q1 : ar .quo (int ((at' % (8 * s.length - 15) : Nat) : Int)) (.lit (.int .i64 8)) = some (int ((at' % (8 * s.length - 15) / 8 : Nat) : Int)) := quoN (b := 8) (by decide) (by omega)
  have r2 : ar .rem (int ((at' % (8 * s.length - 15) : Nat) : Int)) (.lit (.int .i64 8)) = some (int ((at' % (8 * s.length - 15) % 8 : Nat) : Int)) := remN (b := 8) (by decide)
  have hls := len_slc
  simp (config := { maxSteps := 5000000 }) only [dmgRest, dmgPos, walk, WAct, natOf_int, natOf_lit, List.nil_append, List.cons_append, List.append_nil, if_true, if_false, reduceIte, Nat.reduceEqDiff, Nat.zero_add, Nat.reduceAdd, WC_regD, WDs_nil, WDs_loud, WDs_pure, WDs_made, WDs_read, kReadW_t, kReadW_f, kRead_some, CkP_nil, CkP_cons, CkRecP_nil, CkRecP_cons, List.length_cons, List.length_nil, exH, Nat.reduceLeDiff, and_true, true_and, and_false, false_and, true_implies, false_implies, t14, t2, stepO_strb, strb_str, w1, hls, w2, w3, r1, q1, r2]
  -- the bits
  have sh := shl8 hw
  have hs8 : at' % (8 * s.length - 15) % 8 < 8 := Nat.mod_lt _ (by decide)
  have s1 : ar .shr (u32 ((w * 256 : Nat) : Int)) (int ((at' % (8 * s.length - 15) % 8 : Nat) : Int)) = some (u32 ((w * 256 / 2 ^ (at' % (8 * s.length - 15) % 8) : Nat) : Int)) := shrN .u32 .i64 _ _ (by show _ ≤ 32; omega)
  have s2 : ∀ n : Nat, ar .shr (u32 n) (.lit (.int .u64 16)) = some (u32 ((n / 2 ^ 16 : Nat) : Int)) := fun n => shrN .u32 .u64 n 16 (by decide)
  have s3 : ∀ n : Nat, ar .shr (u32 n) (.lit (.int .u64 8)) = some (u32 ((n / 2 ^ 8 : Nat) : Int)) := fun n => shrN .u32 .u64 n 8 (by decide)
  have hfv : ∀ (tm : TM), fillV [(0, 1, .t 98), (1, 1, .t 105), (2, 1, .t 111)] tm [.lit (.int .u8 0), .lit (.int .u8 0), .lit (.int .u8 0)] = fillP 0 1 (tm.nth 98).cells [.lit (.int .u8 0), .lit (.int .u8 0), .lit (.int .u8 0)] (fun l => fillP 1 1 (tm.nth 105).cells l (fun l => fillP 2 1 (tm.nth 111).cells l (fun l => some l))) := fun _ => rfl
  have hl3 : ∀ (a b c : Int) (hh : H), litsL 1 3 (some [u8 a, u8 b, u8 c]) hh = some (.slc hh.next 0 3 1 (some 3), hh.new (.cells [u8 a, u8 b, u8 c])) := fun a b c hh => lits_three rfl
  simp (config := { maxSteps := 5000000 }) only [dmgBits, walk, WAct, natOf_int, natOf_lit, List.nil_append, List.cons_append, List.append_nil, if_true, if_false, reduceIte, Nat.reduceEqDiff, Nat.zero_add, Nat.reduceAdd, WC_regD, WDs_nil, WDs_loud, WDs_pure, WDs_made, WDs_read, kReadW_t, kReadW_f, kRead_some, CkP_nil, CkP_cons, CkRecP_nil, CkRecP_cons, List.length_cons, List.length_nil, exH, Nat.reduceLeDiff, and_true, true_and, and_false, false_and, true_implies, false_implies, t14, t2, t3, wrap32 hw, sh, s1, s2, s3, wrap8m, hfv, fill_u8t, hl3, hls]
  have l2 : Le (h.new (.cells (s.map byteV))) ((h.new (.cells (s.map byteV))).new (.cells [u8 ((w * 256 / 2 ^ (at' % (8 * s.length - 15) % 8) / 2 ^ 16 % 256 : Nat) : Int), u8 ((w * 256 / 2 ^ (at' % (8 * s.length - 15) % 8) / 2 ^ 8 % 256 : Nat) : Int), u8 ((w * 256 / 2 ^ (at' % (8 * s.length - 15) % 8) % 256 : Nat) : Int)])) := Upd.new l1.fresh _
  have hB := l2.get l1.fresh (H.get_new_self h (.cells (s.map byteV))) (by simp)
  have hY := H.get_new_self (h.new (.cells (s.map byteV))) (.cells [u8 ((w * 256 / 2 ^ (at' % (8 * s.length - 15) % 8) / 2 ^ 16 % 256 : Nat) : Int), u8 ((w * 256 / 2 ^ (at' % (8 * s.length - 15) % 8) / 2 ^ 8 % 256 : Nat) : Int), u8 ((w * 256 / 2 ^ (at' % (8 * s.length - 15) % 8) % 256 : Nat) : Int)])
  have hf0 : flip w (at' % (8 * s.length - 15) % 8) 0 = w * 256 / 2 ^ (at' % (8 * s.length - 15) % 8) / 2 ^ 16 % 256 := rfl
  have hf1 : flip w (at' % (8 * s.length - 15) % 8) 1 = w * 256 / 2 ^ (at' % (8 * s.length - 15) % 8) / 2 ^ 8 % 256 := rfl
  have hf2 : flip w (at' % (8 * s.length - 15) % 8) 2 = w * 256 / 2 ^ (at' % (8 * s.length - 15) % 8) % 256 := by
    unfold flip
    rw [show 8 * (2 - 2) = 0 from rfl, Nat.pow_zero, Nat.div_one]
  rw [← hf0, ← hf1, ← hf2] at hY hB l2 ⊢
  generalize (h.new (.cells (s.map byteV))).new (.cells [u8 (flip w (at' % (8 * s.length - 15) % 8) 0), u8 (flip w (at' % (8 * s.length - 15) % 8) 1), u8 (flip w (at' % (8 * s.length - 15) % 8) 2)]) = h2 at hY hB l2 ⊢
  refine xor_loop (s := s) (B := h.next) (Y := (h.new (.cells (s.map byteV))).next) (k := at' % (8 * s.length - 15) / 8) (w := w) (sh := at' % (8 * s.length - 15) % 8) l2.fresh (by omega) (by omega) hB hY (by rw [H.next_new]; omega) ?_ ?_ ?_ ?_ ?_ fun tm' h' cs hs u' hB' hfl => ?_
  · simp (config := { maxSteps := 5000000 }) only [walk, WAct, natOf_int, natOf_lit, List.nil_append, List.cons_append, List.append_nil, if_true, if_false, reduceIte, Nat.reduceEqDiff, Nat.zero_add, Nat.reduceAdd]
  · simp (config := { maxSteps := 5000000 }) only [walk, WAct, natOf_int, natOf_lit, List.nil_append, List.cons_append, List.append_nil, if_true, if_false, reduceIte, Nat.reduceEqDiff, Nat.zero_add, Nat.reduceAdd]; first | done | rfl
  · simp (config := { maxSteps := 5000000 }) only [walk, WAct, natOf_int, natOf_lit, List.nil_append, List.cons_append, List.append_nil, if_true, if_false, reduceIte, Nat.reduceEqDiff, Nat.zero_add, Nat.reduceAdd]
  · simp (config := { maxSteps := 5000000 }) only [walk, WAct, natOf_int, natOf_lit, List.nil_append, List.cons_append, List.append_nil, if_true, if_false, reduceIte, Nat.reduceEqDiff, Nat.zero_add, Nat.reduceAdd]
  · simp (config := { maxSteps := 5000000 }) only [walk, WAct, natOf_int, natOf_lit, List.nil_append, List.cons_append, List.append_nil, if_true, if_false, reduceIte, Nat.reduceEqDiff, Nat.zero_add, Nat.reduceAdd]
  have t15' : tm'.nth 15 = .slc h.next 0 cs.length 1 none := by
    rw [hs 15 (by simp), hfl.1]; simp (config := { maxSteps := 5000000 }) only [walk, WAct, natOf_int, natOf_lit, List.nil_append, List.cons_append, List.append_nil, if_true, if_false, reduceIte, Nat.reduceEqDiff, Nat.zero_add, Nat.reduceAdd]
  have t14' : tm'.nth 14 = str s := by
    rw [hs 14 (by simp)]; simp (config := { maxSteps := 5000000 }) only [walk, WAct, natOf_int, natOf_lit, List.nil_append, List.cons_append, List.append_nil, if_true, if_false, reduceIte, Nat.reduceEqDiff, Nat.zero_add, Nat.reduceAdd, t14]
  simp (config := { maxSteps := 5000000 }) only [walk, WAct, natOf_int, natOf_lit, List.nil_append, List.cons_append, List.append_nil, if_true, if_false, reduceIte, Nat.reduceEqDiff, Nat.zero_add, Nat.reduceAdd]
  have le' : Le h h' := ⟨Nat.le_trans (l1.trans l2).le u'.le, fun b hb _ => by rw [u'.same b (Nat.lt_of_lt_of_le hb (l1.trans l2).le) (by omega), (l1.trans l2).same b hb (by simp)], u'.fresh⟩
  refine dmg_end le'.fresh (by rw [hfl.1]; exact h3) (by rw [hfl.1]; exact hl) hB' (fun hne => flipped_bad hg h3 hw hfl hne) t15' t14' fun e tm'' h'' he hs' le'' => hq e tm'' h'' he (fun j hj => ?_) (le'.trans le'')
  rw [hs' j hj]
  simp only [List.mem_cons, List.not_mem_nil, or_false] at hj
  rcases hj with rfl | rfl | rfl | rfl | rfl | rfl | rfl <;> (rw [hs _ (by simp)]; simp (config := { maxSteps := 5000000 }) only [walk, WAct, natOf_int, natOf_lit, List.nil_append, List.cons_append, List.append_nil, if_true, if_false, reduceIte, Nat.reduceEqDiff, Nat.zero_add, Nat.reduceAdd])

end A
end Go.Proofs.YtcohlhplpogopaaGreat

namespace Go.Proofs.YtcohlhplpogopaaGreat
namespace A

theorem dmg_body {h : H} {tm : TM} {c d : List UInt8} {e f : Int} {S k at' w : Nat} {Q : E → St → Prop} (hf : HF h) (hk : k < 2) (hS : h.get S = some (.cells [str c, str d])) (hc : DOK e c) (hd : DOK f d) (ha : at' < 4294967296) (hw : w < 65536)
    (t50 : tm.nth 50 = int k) (t48 : tm.nth 48 = .slc S 0 2 1 (some 2)) (t2 : tm.nth 2 = u32 at') (t3 : tm.nth 3 = u16 w) (t10 : tm.nth 10 = int e) (t12 : tm.nth 12 = int f)
    (hq : ∀ e tm' h', (e = .nor ∨ e = .ex 1) → (∀ j, j ∈ [2, 3, 10, 12, 48, 49, 50] → tm'.nth j = tm.nth j) → Le h h' → Q e ⟨tm', [], h'⟩) : WC sp2 fs dmgBody ⟨tm, [], h⟩ Q := by
  have i1 := idx_slc (n := 2) (es := 1) (c := some 2) hS hk
  rw [Nat.mul_one] at i1
  have hsl := fun (l : List UInt8) h => str_len l h
  -- behind the test
  have rest : ∀ (s : List UInt8) (tm1 : TM), 3 ≤ s.length → s.length ≤ 80000 → goodB s → tm1.nth 14 = str s → (∀ j, j ∈ [2, 3, 10, 12, 48, 49, 50] → tm1.nth j = tm.nth j) → WC sp2 fs dmgRest ⟨tm1, [], h⟩ Q := by
    intro s tm1 h3 hl hg h14 hs
    refine dmg_rest hf h3 hl hg ha hw h14 (by rw [hs 2 (by simp)]; exact t2) (by rw [hs 3 (by simp)]; exact t3) fun e' tm' h' he hs' hle => hq e' tm' h' he (fun j hj => ?_) hle
    rw [hs' j hj, hs j hj]
  have lt3 : ∀ l : List UInt8, decide ((l.length : Int) < 3) = decide (l.length < 3) := fun l => by rw [decide_eq_decide]; omega
  rcases (show k = 0 ∨ k = 1 by omega) with rfl | rfl
  · have a1 : h.at1 (.ptr S 0) = some (str c) := by rw [H.at1_ptr hS]; rfl
    have e0 : decide (((0 : Nat) : Int) = 0) = true := rfl
    simp only [dmgBody, dmgTest, walk, WAct, natOf_int, natOf_lit, List.nil_append, List.cons_append, List.append_nil, if_true, if_false, reduceIte, Nat.reduceEqDiff, Nat.zero_add, Nat.reduceAdd, t50, t48, i1, a1, e0, t10]
    by_cases he : e = 0
    · have e1 : decide (e = 0) = true := by simpa using he
      have e2 : decide (((0 : Nat) : Int) = 1) = false := rfl
      simp only [e1, Bool.not_true, e2, walk, WAct, natOf_int, natOf_lit, List.nil_append, List.cons_append, List.append_nil, if_true, if_false, reduceIte, Nat.reduceEqDiff, Nat.zero_add, Nat.reduceAdd, hsl, lt3]
      by_cases hl : c.length < 3
      · have e3 : decide (c.length < 3) = true := by simpa using hl
        simp only [e3, walk, WAct, natOf_int, natOf_lit, List.nil_append, List.cons_append, List.append_nil, if_true, if_false, reduceIte, Nat.reduceEqDiff, Nat.zero_add, Nat.reduceAdd]
        refine hq _ _ _ (.inr rfl) (fun j hj => ?_) (Upd.refl hf)
        simp only [List.mem_cons, List.not_mem_nil, or_false] at hj
        rcases hj with rfl | rfl | rfl | rfl | rfl | rfl | rfl <;> simp only [walk, WAct, natOf_int, natOf_lit, List.nil_append, List.cons_append, List.append_nil, if_true, if_false, reduceIte, Nat.reduceEqDiff, Nat.zero_add, Nat.reduceAdd]
      · have e3 : decide (c.length < 3) = false := by simpa using hl
        simp only [e3, walk, WAct, natOf_int, natOf_lit, List.nil_append, List.cons_append, List.append_nil, if_true, if_false, reduceIte, Nat.reduceEqDiff, Nat.zero_add, Nat.reduceAdd]
        obtain ⟨g1, g2⟩ := hc he (by omega)
        refine rest c _ (by omega) g2 g1 (by simp only [walk, WAct, natOf_int, natOf_lit, List.nil_append, List.cons_append, List.append_nil, if_true, if_false, reduceIte, Nat.reduceEqDiff, Nat.zero_add, Nat.reduceAdd]) fun j hj => ?_
        simp only [List.mem_cons, List.not_mem_nil, or_false] at hj
        rcases hj with rfl | rfl | rfl | rfl | rfl | rfl | rfl <;> simp only [walk, WAct, natOf_int, natOf_lit, List.nil_append, List.cons_append, List.append_nil, if_true, if_false, reduceIte, Nat.reduceEqDiff, Nat.zero_add, Nat.reduceAdd]
    · have e1 : decide (e = 0) = false := by simpa using he
      simp only [e1, Bool.not_false, walk, WAct, natOf_int, natOf_lit, List.nil_append, List.cons_append, List.append_nil, if_true, if_false, reduceIte, Nat.reduceEqDiff, Nat.zero_add, Nat.reduceAdd]
      refine hq _ _ _ (.inr rfl) (fun j hj => ?_) (Upd.refl hf)
      simp only [List.mem_cons, List.not_mem_nil, or_false] at hj
      rcases hj with rfl | rfl | rfl | rfl | rfl | rfl | rfl <;> simp only [walk, WAct, natOf_int, natOf_lit, List.nil_append, List.cons_append, List.append_nil, if_true, if_false, reduceIte, Nat.reduceEqDiff, Nat.zero_add, Nat.reduceAdd]
  · have a1 : h.at1 (.ptr S 1) = some (str d) := by rw [H.at1_ptr hS]; rfl
    have e0 : decide (((1 : Nat) : Int) = 0) = false := rfl
    have e2 : decide (((1 : Nat) : Int) = 1) = true := rfl
    simp only [dmgBody, dmgTest, walk, WAct, natOf_int, natOf_lit, List.nil_append, List.cons_append, List.append_nil, if_true, if_false, reduceIte, Nat.reduceEqDiff, Nat.zero_add, Nat.reduceAdd, t50, t48, i1, a1, e0, e2, t12]
    by_cases he : f = 0
    · have e1 : decide (f = 0) = true := by simpa using he
      simp only [e1, Bool.not_true, walk, WAct, natOf_int, natOf_lit, List.nil_append, List.cons_append, List.append_nil, if_true, if_false, reduceIte, Nat.reduceEqDiff, Nat.zero_add, Nat.reduceAdd, hsl, lt3]
      by_cases hl : d.length < 3
      · have e3 : decide (d.length < 3) = true := by simpa using hl
        simp only [e3, walk, WAct, natOf_int, natOf_lit, List.nil_append, List.cons_append, List.append_nil, if_true, if_false, reduceIte, Nat.reduceEqDiff, Nat.zero_add, Nat.reduceAdd]
        refine hq _ _ _ (.inr rfl) (fun j hj => ?_) (Upd.refl hf)
        simp only [List.mem_cons, List.not_mem_nil, or_false] at hj
        rcases hj with rfl | rfl | rfl | rfl | rfl | rfl | rfl <;> simp only [walk, WAct, natOf_int, natOf_lit, List.nil_append, List.cons_append, List.append_nil, if_true, if_false, reduceIte, Nat.reduceEqDiff, Nat.zero_add, Nat.reduceAdd]
      · have e3 : decide (d.length < 3) = false := by simpa using hl
        simp only [e3, walk, WAct, natOf_int, natOf_lit, List.nil_append, List.cons_append, List.append_nil, if_true, if_false, reduceIte, Nat.reduceEqDiff, Nat.zero_add, Nat.reduceAdd]
        obtain ⟨g1, g2⟩ := hd he (by omega)
        refine rest d _ (by omega) g2 g1 (by simp only [walk, WAct, natOf_int, natOf_lit, List.nil_append, List.cons_append, List.append_nil, if_true, if_false, reduceIte, Nat.reduceEqDiff, Nat.zero_add, Nat.reduceAdd]) fun j hj => ?_
        simp only [List.mem_cons, List.not_mem_nil, or_false] at hj
        rcases hj with rfl | rfl | rfl | rfl | rfl | rfl | rfl <;> simp only [walk, WAct, natOf_int, natOf_lit, List.nil_append, List.cons_append, List.append_nil, if_true, if_false, reduceIte, Nat.reduceEqDiff, Nat.zero_add, Nat.reduceAdd]
    · have e1 : decide (f = 0) = false := by simpa using he
      simp only [e1, Bool.not_false, walk, WAct, natOf_int, natOf_lit, List.nil_append, List.cons_append, List.append_nil, if_true, if_false, reduceIte, Nat.reduceEqDiff, Nat.zero_add, Nat.reduceAdd]
      refine hq _ _ _ (.inr rfl) (fun j hj => ?_) (Upd.refl hf)
      simp only [List.mem_cons, List.not_mem_nil, or_false] at hj
      rcases hj with rfl | rfl | rfl | rfl | rfl | rfl | rfl <;> simp only [walk, WAct, natOf_int, natOf_lit, List.nil_append, List.cons_append, List.append_nil, if_true, if_false, reduceIte, Nat.reduceEqDiff, Nat.zero_add, Nat.reduceAdd]

theorem damage_wf {N : Nat} {h : H} {Q : Ret → H → Prop} {vx vl : V} {x : PX} {l : PL} {at' w : Nat} (hf : HF h) (hN : N ≤ h.next) (hx : DParcel N h vx x) (hl : DLetter N h vl l) (ha : at' < 4294967296) (hw : w < 65536)
    (hq : ∀ h', Le h h' → Q (.ok (bool true)) h') : WF sp2 fs 5 [vx, vl, u32 at', u16 w] h Q := by
  obtain ⟨va, vb, vc, rfl, da, db, dc⟩ := hx
  obtain ⟨vd, rfl, dd⟩ := hl
  refine WF_enter (f := f5) rfl rfl rfl ?_
  rw [f5_eq]
  obtain ⟨h1, hb1, hle1, hg1, hn1, _⟩ := boxed (l := [va, vb, vc]) hf (by show cond va.atom (cond vb.atom (cond vc.atom true false) false) false = true; rw [da.atom, db.atom, dc.atom]; rfl)
  obtain ⟨h2, hb2, hle2, hg2, hn2, _⟩ := boxed (l := [int l.chan, vd]) hle1.fresh (atoms2 rfl (atom_slc dd.1.sl.nk))
  have le2 := hle1.trans hle2
  have hg1' := hle2.get hle1.fresh hg1 (by simp)
  have hN2 : N ≤ h2.next := Nat.le_trans hN le2.le
  have low2 := le2.lowLe hN
  have dx : DParcel N h2 (.agg [va, vb, vc]) x := ⟨va, vb, vc, rfl, da.move low2, db.move low2, dc.move low2⟩
  have dl : DLetter N h2 (.agg [int l.chan, vd]) l := ⟨vd, rfl, dd.move low2⟩
  have rd : ∀ {hh : H}, Le h2 hh → hh.at (.ptr h.next 0) 3 = some [va, vb, vc] ∧ hh.at (.ptr h1.next 0) 2 = some [int l.chan, vd] ∧ fieldAV 1 (.ptr h1.next 0) hh = some (.ptr h1.next 1, hh) ∧ hh.at1 (.ptr h1.next 1) = some vd ∧ cond (isNK .slc vd) (lenV vd hh) none = some (int l.vals.length, hh) := by
    intro hh hle
    have e1 := hle.get le2.fresh hg1' (by simp)
    have e2 := hle.get le2.fresh hg2 (by simp)
    exact ⟨H.at_ptr (off := 0) (n := 3) e1 (Nat.le_refl _), H.at_ptr (off := 0) (n := 2) e2 (Nat.le_refl _), by simpa using fieldAV_ptr (off := 0) (o := 1) e2, by simpa using H.at1_ptr (off := 1) e2, (dd.move (low2.trans (hle.lowLe hN2))).len⟩
  obtain ⟨r1, r2, r3, r4, r5⟩ := rd (Upd.refl le2.fresh)
  have fin : ∀ {hh : H}, Le h2 hh → Q (.ok (bool true)) hh := fun hle => hq _ (le2.trans hle)
  simp only [walk, WAct, natOf_int, natOf_lit, List.nil_append, List.cons_append, List.append_nil, if_true, if_false, reduceIte, Nat.reduceEqDiff, Nat.zero_add, Nat.reduceAdd, hb1, hb2, r1]
  refine large_wf le2.fresh hN2 dx fun b h3 le3 hsm => ?_
  simp only [walk, WAct, natOf_int, natOf_lit, List.nil_append, List.cons_append, List.append_nil, if_true, if_false, reduceIte, Nat.reduceEqDiff, Nat.zero_add, Nat.reduceAdd]
  obtain ⟨r1, r2, r3, r4, r5⟩ := rd le3
  cases b with
  | true =>
    simp only [walk, WAct, natOf_int, natOf_lit, List.nil_append, List.cons_append, List.append_nil, if_true, if_false, reduceIte, Nat.reduceEqDiff, Nat.zero_add, Nat.reduceAdd]
    refine works_wf ?_
    simp only [walk, WAct, natOf_int, natOf_lit, List.nil_append, List.cons_append, List.append_nil, if_true, if_false, reduceIte, Nat.reduceEqDiff, Nat.zero_add, Nat.reduceAdd]
    exact fin le3
  | false =>
    have hsx := hsm rfl
    simp only [walk, WAct, natOf_int, natOf_lit, List.nil_append, List.cons_append, List.append_nil, if_true, if_false, reduceIte, Nat.reduceEqDiff, Nat.zero_add, Nat.reduceAdd, r3, r4]
    refine many_wf r5 ?_
    simp only [walk, WAct, natOf_int, natOf_lit, List.nil_append, List.cons_append, List.append_nil, if_true, if_false, reduceIte, Nat.reduceEqDiff, Nat.zero_add, Nat.reduceAdd]
    by_cases c2 : 1000 < l.vals.length
    · have e2 : decide (1000 < l.vals.length) = true := by simpa using c2
      simp only [e2, walk, WAct, natOf_int, natOf_lit, List.nil_append, List.cons_append, List.append_nil, if_true, if_false, reduceIte, Nat.reduceEqDiff, Nat.zero_add, Nat.reduceAdd]
      refine works_wf ?_
      simp only [walk, WAct, natOf_int, natOf_lit, List.nil_append, List.cons_append, List.append_nil, if_true, if_false, reduceIte, Nat.reduceEqDiff, Nat.zero_add, Nat.reduceAdd]
      exact fin le3
    have e2 : decide (1000 < l.vals.length) = false := by simpa using c2
    simp only [e2, walk, WAct, natOf_int, natOf_lit, List.nil_append, List.cons_append, List.append_nil, if_true, if_false, reduceIte, Nat.reduceEqDiff, Nat.zero_add, Nat.reduceAdd]
    by_cases c3 : w = 0
    · have e3 : decide ((w : Int) = 0) = true := by rw [decide_eq_true_eq]; omega
      simp only [e3, walk, WAct, natOf_int, natOf_lit, List.nil_append, List.cons_append, List.append_nil, if_true, if_false, reduceIte, Nat.reduceEqDiff, Nat.zero_add, Nat.reduceAdd]
      refine works_wf ?_
      simp only [walk, WAct, natOf_int, natOf_lit, List.nil_append, List.cons_append, List.append_nil, if_true, if_false, reduceIte, Nat.reduceEqDiff, Nat.zero_add, Nat.reduceAdd]
      exact fin le3
    have e3 : decide ((w : Int) = 0) = false := by rw [decide_eq_false_iff_not]; omega
    simp only [e3, walk, WAct, natOf_int, natOf_lit, List.nil_append, List.cons_append, List.append_nil, if_true, if_false, reduceIte, Nat.reduceEqDiff, Nat.zero_add, Nat.reduceAdd, r1]
    have hN3 := Nat.le_trans hN2 le3.le
    refine Bytes_wf le3.fresh hN3 (dx.move (le3.lowLe hN2)) hsx fun h4 le4 => ?_
    obtain ⟨c, e, hce, hcd⟩ := bytesV_ok x
    rw [hce]
    have le24 := le3.trans le4
    obtain ⟨r1, r2, r3, r4, r5⟩ := rd le24
    simp only [walk, WAct, natOf_int, natOf_lit, List.nil_append, List.cons_append, List.append_nil, if_true, if_false, reduceIte, Nat.reduceEqDiff, Nat.zero_add, Nat.reduceAdd, ext0, ext1, r2]
    refine Letter_wf le24.fresh (Nat.le_trans hN2 le24.le) (dl.move (le24.lowLe hN2)) (by have : most = 1000000 := rfl; omega) fun h5 le5 => ?_
    obtain ⟨d, f, hdf, hdd⟩ := letterV_ok l
    rw [hdf]
    have le25 := le24.trans le5
    have hfv : ∀ (tm : TM), fillV [(0, 1, .t 46), (1, 1, .t 47)] tm [.lit (.string ⟨#[]⟩), .lit (.string ⟨#[]⟩)] = fillP 0 1 (tm.nth 46).cells [.lit (.string ⟨#[]⟩), .lit (.string ⟨#[]⟩)] (fun l => fillP 1 1 (tm.nth 47).cells l (fun l => some l)) := fun _ => rfl
    have hfs : fillP 0 1 (V.cells (str c)) [.lit (.string ⟨#[]⟩), .lit (.string ⟨#[]⟩)] (fun l => fillP 1 1 (V.cells (str d)) l (fun l => some l)) = some [str c, str d] := rfl
    have hl2 : litsL 1 2 (some [str c, str d]) h5 = some (.slc h5.next 0 2 1 (some 2), h5.new (.cells [str c, str d])) := lits_two rfl
    have le6 : Le h5 (h5.new (.cells [str c, str d])) := Upd.new le25.fresh _
    have hS := H.get_new_self h5 (.cells [str c, str d])
    have le26 := le25.trans le6
    simp only [walk, WAct, natOf_int, natOf_lit, List.nil_append, List.cons_append, List.append_nil, if_true, if_false, reduceIte, Nat.reduceEqDiff, Nat.zero_add, Nat.reduceAdd, ext0, ext1, hfv, hfs, hl2, len_slc]
    generalize h5.new (.cells [str c, str d]) = h6 at le6 hS le26 ⊢
    refine WC_range (N := 2) (J := fun k st => st.tm.nth 50 = int k ∧ st.tm.nth 49 = int ((2 : Nat) : Int) ∧ st.tm.nth 48 = .slc h5.next 0 2 1 (some 2) ∧ st.tm.nth 2 = u32 at' ∧ st.tm.nth 3 = u16 w ∧ st.tm.nth 10 = int e ∧ st.tm.nth 12 = int f ∧ st.df = [] ∧ Le h6 st.h) (by decide) (by decide) ?_ ?_ ?_ (by decide) ?_ ?_
    · simp only [walk, WAct, natOf_int, natOf_lit, List.nil_append, List.cons_append, List.append_nil, if_true, if_false, reduceIte, Nat.reduceEqDiff, Nat.zero_add, Nat.reduceAdd]
      exact ⟨rfl, trivial, trivial, trivial, trivial, trivial, trivial, trivial, Upd.refl le26.fresh⟩
    · rintro j st ⟨h1, h2, _⟩; exact ⟨h1, h2⟩
    · rintro j ⟨tm, df, hh⟩ v ⟨h1, h2, h3, h4, h5, h6, h7, h8⟩
      simp only [walk, WAct, natOf_int, natOf_lit, List.nil_append, List.cons_append, List.append_nil, if_true, if_false, reduceIte, Nat.reduceEqDiff, Nat.zero_add, Nat.reduceAdd]
      exact ⟨h1, h2, h3, h4, h5, h6, h7, h8⟩
    · rintro ⟨tm, df, hh⟩ ⟨h1, h2, h3, h4, h5, h6, h7, h8, h9⟩
      simp only at h8 h9
      subst h8
      simp only [walk, WAct, natOf_int, natOf_lit, List.nil_append, List.cons_append, List.append_nil, if_true, if_false, reduceIte, Nat.reduceEqDiff, Nat.zero_add, Nat.reduceAdd]
      refine works_wf ?_
      simp only [walk, WAct, natOf_int, natOf_lit, List.nil_append, List.cons_append, List.append_nil, if_true, if_false, reduceIte, Nat.reduceEqDiff, Nat.zero_add, Nat.reduceAdd]
      exact fin (le26.trans h9)
    · rintro k ⟨tm, df, hh⟩ hk ⟨t1, t2, t3, t4, t5, t6, t7, t8, t9⟩
      simp only at t1 t2 t3 t4 t5 t6 t7 t8 t9
      subst t8
      refine dmg_body t9.fresh hk (t9.get le26.fresh hS (by simp)) hcd hdd ha hw t1 t3 t4 t5 t6 t7 fun e' tm' h' he hs hle => ?_
      have key : tm'.nth 50 = int k ∧ (((tm'.put 155 (int ((k + 1 : Nat) : Int))).put 50 (int ((k + 1 : Nat) : Int))).nth 50 = int ((k + 1 : Nat) : Int) ∧ ((tm'.put 155 (int ((k + 1 : Nat) : Int))).put 50 (int ((k + 1 : Nat) : Int))).nth 49 = int ((2 : Nat) : Int) ∧ ((tm'.put 155 (int ((k + 1 : Nat) : Int))).put 50 (int ((k + 1 : Nat) : Int))).nth 48 = .slc h5.next 0 2 1 (some 2) ∧ ((tm'.put 155 (int ((k + 1 : Nat) : Int))).put 50 (int ((k + 1 : Nat) : Int))).nth 2 = u32 at' ∧ ((tm'.put 155 (int ((k + 1 : Nat) : Int))).put 50 (int ((k + 1 : Nat) : Int))).nth 3 = u16 w ∧ ((tm'.put 155 (int ((k + 1 : Nat) : Int))).put 50 (int ((k + 1 : Nat) : Int))).nth 10 = int e ∧ ((tm'.put 155 (int ((k + 1 : Nat) : Int))).put 50 (int ((k + 1 : Nat) : Int))).nth 12 = int f ∧ ([] : List D) = [] ∧ Le h6 h') := by
        refine ⟨by rw [hs 50 (by simp)]; exact t1, ?_⟩
        simp only [walk, WAct, natOf_int, natOf_lit, List.nil_append, List.cons_append, List.append_nil, if_true, if_false, reduceIte, Nat.reduceEqDiff, Nat.zero_add, Nat.reduceAdd, hs 50 (by simp), hs 49 (by simp), hs 48 (by simp), hs 2 (by simp), hs 3 (by simp), hs 10 (by simp), hs 12 (by simp), t2, t3, t4, t5, t6, t7]
        exact ⟨trivial, trivial, trivial, trivial, trivial, trivial, trivial, trivial, t9.trans hle⟩
      rcases he with rfl | rfl
      · exact key
      · show if 1 = 1 then _ else _
        rw [if_pos rfl]
        exact key

end A
end Go.Proofs.YtcohlhplpogopaaGreat

namespace Go.Proofs.YtcohlhplpogopaaGreat
namespace A
open Go.Deep

def sg0 : Sg := fun _ => none
theorem h0_get (b : Nat) : h0.get b = none := rfl

theorem CRel.append {σ : Sg} {m : World} {blk : Nat} : ∀ {l l' : List V} {off : Nat}, CRel σ m blk off l → CRel σ m blk (off + l.length) l' → CRel σ m blk off (l ++ l')
  | [], _, _, _, h => by simpa using h
  | v :: l, l', off, h, h' => by
    simp only [CRel] at h
    simp only [List.cons_append, CRel]
    refine ⟨h.1, CRel.append h.2 ?_⟩
    rwa [show off + 1 + l.length = off + (v :: l).length from by simp; omega]

theorem crel_cells {σ : Sg} {m : World} {a : Addr} : ∀ {vs : List V} {cs : List Value} {o : Nat}, LRel σ m vs cs → (∀ i, i < cs.length → m.cell? (a.add (o + i)) = cs[i]?) → CRel σ m a.block (a.off + o) vs
  | [], _, _, _, _ => by simp only [CRel]
  | v :: vs, cs, o, hr, hc => by
    simp only [LRel] at hr
    obtain ⟨x, r, rfl, h1, h2⟩ := hr
    simp only [CRel]
    refine ⟨⟨x, ?_, h1⟩, ?_⟩
    · have h3 := hc 0 (by simp)
      rw [Nat.add_zero, List.getElem?_cons_zero] at h3
      by_cases ho : o = 0
      · subst ho
        have h4 : m.cell? a = some x := by simpa [Addr.add] using h3
        have hsp : a.spot = none := by
          unfold World.cell? at h4
          split at h4
          · split at h4
            · cases h4
            · rename_i e; simpa using e
          · cases h4
        have : (⟨a.block, a.off + 0, none⟩ : Addr) = a := by cases a; simp only at hsp; subst hsp; rfl
        rw [this]; exact h4
      · have : a.add o = ⟨a.block, a.off + o, none⟩ := by simp [Addr.add, ho]
        rw [← this]; exact h3
    · rw [Nat.add_assoc]
      refine crel_cells h2 fun i hi => ?_
      have h3 := hc (i + 1) (by simp; omega)
      rw [List.getElem?_cons_succ] at h3
      rw [show o + 1 + i = o + (i + 1) from by omega]; exact h3

/-- lists of rows of cells, and what they stand for. -/
def AllR {α : Type} (R : List V → α → Prop) : List (List V) → List α → Prop
  | [], [] => True
  | c :: L, x :: xs => R c x ∧ AllR R L xs
  | _, _ => False
theorem AllR.snoc {α : Type} {R : List V → α → Prop} {c : List V} {x : α} : ∀ {L : List (List V)} {xs : List α}, AllR R L xs → R c x → AllR R (L ++ [c]) (xs ++ [x])
  | [], [], _, h => ⟨h, trivial⟩
  | _ :: _, _ :: _, h, h' => ⟨h.1, AllR.snoc h.2 h'⟩
theorem AllR.length {α : Type} {R : List V → α → Prop} : ∀ {L : List (List V)} {xs : List α}, AllR R L xs → L.length = xs.length
  | [], [], _ => rfl
  | _ :: _, _ :: _, h => by simp [AllR.length h.2]

section
variable {K : Type} {enc : TypeId × Value → K} {W : World} {spare : Nat → Bool} {held : Bool}

/-- what is read at a type. -/
def RD {α : Type} (enc : TypeId × Value → K) (W : World) (spare : Nat → Bool) (held : Bool) (R : List V → α → Prop) (t : TypeId) : Prop :=
  ∀ n cs x, DataW.trod enc Tryz.prog W 0 spare held n t cs = some x → ∃ vs a, LRel sg0 W vs cs ∧ R vs a ∧ allAtoms vs = true

theorem rows_rs {es : Nat} {L : List (List V)} (hs : ∀ c, c ∈ L → c.length = es) (ha : allAtoms L.flatten = true) (h : H) : Rows h es (.rs L.flatten L.length) L := by
  refine ⟨⟨?_, rfl⟩, hs, ha⟩
  show withLen L.length (cut L.flatten 0 (L.length * es)) = _
  rw [cut_eq _ _ _ (by rw [flatten_length hs]; omega), List.drop_zero, List.take_of_length_le (by rw [flatten_length hs]; exact Nat.le_refl _)]; rfl

theorem read_slice {t e : TypeId} {es : Nat} {α : Type} {R : List V → α → Prop} (ht : Tryz.prog.underlying t = some (.slice e)) (hes : Tryz.prog.cellsOf e = es) (hpos : 0 < es) (hR : RD enc W spare held R e) {n : Nat} {cs : List Value} {x : DataW K × List MemPlace}
    (h : DataW.trod enc Tryz.prog W 0 spare held n t cs = some x) : ∃ v L xs, LRel sg0 W [v] cs ∧ v.atom = true ∧ (∀ h, Rows h es v L) ∧ SlB 0 v ∧ AllR R L xs := by
  rcases open_slice ht h with ⟨rfl, _⟩ | ⟨a, len, cap, m, N, D, Pl, rfl, _, hl, _, hm, _, hx⟩
  · refine ⟨.lit (.slice none 0 0), [], [], LRel.cons (by simp only [VRel]) LRel.nil, rfl, fun h => ⟨⟨rfl, rfl⟩, (fun c hc => nomatch hc), rfl⟩, trivial, trivial⟩
  · rw [hes] at hx
    have hml : len ≤ m := by rw [hm]; split <;> omega
    have key : ∀ k, k ≤ len → ∃ L xs, L.length = k ∧ (∀ c, c ∈ L → c.length = es) ∧ allAtoms L.flatten = true ∧ AllR R L xs ∧ CRel sg0 W a.block a.off L.flatten := by
      intro k
      induction k with
      | zero => intro _; exact ⟨[], [], rfl, (fun c hc => nomatch hc), rfl, trivial, by simp only [List.flatten_nil, CRel]⟩
      | succ k ih =>
        intro hk
        obtain ⟨L, xs, i1, i2, i3, i4, i5⟩ := ih (by omega)
        obtain ⟨cs', c1, c2⟩ := hx k (by omega)
        obtain ⟨vs, y, r1, r2, r3⟩ := hR _ _ _ c2
        obtain ⟨_, c3, c4⟩ := World.cells?_some c1
        have hvl : vs.length = es := by rw [← r1.length]; exact c3
        refine ⟨L ++ [vs], xs ++ [y], by simp [i1], fun c hc => ?_, ?_, i4.snoc r2, ?_⟩
        · rcases List.mem_append.1 hc with hc | hc
          · exact i2 c hc
          · rw [List.mem_singleton.1 hc]; exact hvl
        · rw [List.flatten_append]
          exact allAtoms_append i3 (by simpa using r3)
        · rw [List.flatten_append]
          refine i5.append ?_
          rw [flatten_length i2, i1]
          have : [vs].flatten = vs := by simp
          rw [this]
          refine crel_cells r1 fun i hi => ?_
          rw [← c4 i (by omega), add_add]
    obtain ⟨L, xs, i1, i2, i3, i4, i5⟩ := key len (Nat.le_refl _)
    subst i1
    refine ⟨.rs L.flatten L.length, L, xs, LRel.cons ?_ LRel.nil, rfl, fun h => rows_rs i2 i3 h, trivial, i4⟩
    simp only [VRel]
    refine ⟨a.block, a.off, a.spot, cap, rfl, hl, i5, ?_⟩
    by_cases h0 : L.length = 0
    · exact .inr h0
    · left
      obtain ⟨cs', c1, _⟩ := hx 0 (by omega)
      obtain ⟨_, c3, c4⟩ := World.cells?_some c1
      have h1 := c4 0 hpos
      have h2 : W.cell? a = some (cs'[0]'(by omega)) := by
        rw [List.getElem?_eq_getElem (by omega)] at h1
        simpa [Addr.add] using h1
      unfold World.cell? at h2
      split at h2
      · split at h2
        · cases h2
        · rename_i e; simpa using e
      · cases h2

theorem one_cell {cs : List Value} {v : Value} (hl : cs.length = 1) (h : (cs.drop 0).take 1 = [v]) : cs = [v] := by
  match cs, hl with
  | [c], _ => simpa using h

theorem rd_int {t : TypeId} (ht : Tryz.prog.underlying t = some (.int .i64)) : RD enc W spare held (fun vs (a : Int) => vs = [int a]) t := by
  intro n cs x h
  obtain ⟨a, rfl, _, _⟩ := DataW.trod_int ht h
  exact ⟨[int a], a, LRel.cons (by simp only [VRel]) LRel.nil, rfl, rfl⟩
theorem rd_val : RD enc W spare held (fun vs (a : Val) => vs = encVal a) 81 := by
  intro n cs x h
  obtain ⟨y0, y1, m, _, hl, h0, h1⟩ := Go.ChangeShapes.trod_struct2 Tryz.underlying81 h
  have e2 : Tryz.prog.cellsOf 81 = 2 := by kernel_rfl
  have e3 : Tryz.prog.cellsOf 3 = 1 := by kernel_rfl
  have e79 : Tryz.prog.cellsOf 79 = 1 := by kernel_rfl
  rw [e2] at hl
  simp only [e3, e79] at h0 h1
  obtain ⟨a, c0, _, _⟩ := DataW.trod_int Tryz.underlying79 h0
  obtain ⟨b, c1, _, _⟩ := DataW.trod_int Tryz.underlying3 h1
  match cs, hl with
  | [p, q], _ =>
    simp at c0 c1
    subst c0 c1
    exact ⟨encVal (a, b), (a, b), LRel.cons (by simp only [VRel]) (LRel.cons (by simp only [VRel]) LRel.nil), rfl, rfl⟩

theorem allR_enc {α : Type} {f : α → List V} : ∀ {L : List (List V)} {xs : List α}, AllR (fun vs a => vs = f a) L xs → L = xs.map f
  | [], [], _ => rfl
  | c :: L, x :: xs, h => by rw [List.map_cons, ← allR_enc h.2, h.1]

theorem rd_vals : RD enc W spare held (fun vs (l : List Val) => ∃ v, vs = [v] ∧ ∀ h, DVals 0 h v l) 47 := by
  intro n cs x h
  obtain ⟨v, L, xs, h1, h2, h3, h4, h5⟩ := read_slice (es := 2) Tryz.underlying47 (by kernel_rfl) (by decide) rd_val h
  have := allR_enc h5
  subst this
  exact ⟨[v], xs, h1, ⟨v, rfl, fun h => ⟨h3 h, h4⟩⟩, by show cond v.atom true false = true; rw [h2]; rfl⟩
theorem rd_ints : RD enc W spare held (fun vs (l : List Int) => ∃ v, vs = [v] ∧ ∀ h, DInts 0 h v l) 38 := by
  intro n cs x h
  obtain ⟨v, L, xs, h1, h2, h3, h4, h5⟩ := read_slice (es := 1) Tryz.underlying38 (by kernel_rfl) (by decide) (rd_int Tryz.underlying3) h
  have := allR_enc (f := fun a : Int => [int a]) h5
  subst this
  refine ⟨[v], xs, h1, ⟨v, rfl, fun h => ⟨?_, h4⟩⟩, by show cond v.atom true false = true; rw [h2]; rfl⟩
  rw [List.map_map]; exact h3 h
theorem rd_msg : RD enc W spare held (fun vs (l : List Val) => ∃ v, vs = [v] ∧ ∀ h, DVals 0 h v l) 132 := by
  intro n cs x h
  obtain ⟨y0, m, _, hl, h0⟩ := Go.ChangeShapes.trod_struct1 Tryz.underlying132 h
  have e1 : Tryz.prog.cellsOf 132 = 1 := by kernel_rfl
  have e2 : Tryz.prog.cellsOf 47 = 1 := by kernel_rfl
  rw [e1] at hl
  simp only [e2] at h0
  have : (cs.drop 0).take 1 = cs := by
    match cs, hl with
    | [c], _ => rfl
  rw [this] at h0
  exact rd_vals _ _ _ h0

theorem allR_one {α : Type} {S : V → α → Prop} : ∀ {L : List (List V)} {xs : List α}, AllR (fun vs a => ∃ v, vs = [v] ∧ S v a) L xs → ∃ vs : List V, L = vs.map (fun v => [v]) ∧ All2 S vs xs
  | [], [], _ => ⟨[], rfl, trivial⟩
  | c :: L, x :: xs, h => by
    obtain ⟨⟨v, rfl, h1⟩, h2⟩ := h
    obtain ⟨vs, rfl, h3⟩ := allR_one h2
    exact ⟨v :: vs, rfl, h1, h3⟩
theorem rd_msgs : RD enc W spare held (fun vs (l : List (List Val)) => ∃ v, vs = [v] ∧ ∀ h, DMsgs 0 h v l) 51 := by
  intro n cs x h
  obtain ⟨v, L, xs, h1, h2, h3, h4, h5⟩ := read_slice (es := 1) Tryz.underlying51 (by kernel_rfl) (by decide) rd_msg h
  obtain ⟨vs, rfl, h6⟩ := allR_one h5
  exact ⟨[v], xs, h1, ⟨v, rfl, fun h => ⟨vs, h3 h, h4, h6.imp fun v x d => d h⟩⟩, by show cond v.atom true false = true; rw [h2]; rfl⟩
theorem rd_queue : RD enc W spare held (fun vs (q : PQ) => ∃ v, vs = [int q.chan, v] ∧ ∀ h, DMsgs 0 h v q.queue) 120 := by
  intro n cs x h
  obtain ⟨y0, y1, m, _, hl, h0, h1⟩ := Go.ChangeShapes.trod_struct2 Tryz.underlying120 h
  have e2 : Tryz.prog.cellsOf 120 = 2 := by kernel_rfl
  have e3 : Tryz.prog.cellsOf 3 = 1 := by kernel_rfl
  have e51 : Tryz.prog.cellsOf 51 = 1 := by kernel_rfl
  rw [e2] at hl
  simp only [e3, e51] at h0 h1
  obtain ⟨a, c0, _, _⟩ := DataW.trod_int Tryz.underlying3 h0
  obtain ⟨_, l, r1, ⟨v, rfl, r2⟩, r3⟩ := rd_msgs _ _ _ h1
  match cs, hl with
  | [p, q], _ =>
    simp at c0
    subst c0
    exact ⟨[int a, v], ⟨a, l⟩, LRel.cons (by simp only [VRel]) r1, ⟨v, rfl, r2⟩, r3⟩
theorem allR_encQ : ∀ {L : List (List V)} {xs : List PQ}, AllR (fun vs (q : PQ) => ∃ v, vs = [int q.chan, v] ∧ ∀ h, DMsgs 0 h v q.queue) L xs → ∃ vs : List V, L = encQ vs xs ∧ All2 (fun v (q : PQ) => ∀ h, DMsgs 0 h v q.queue) vs xs
  | [], [], _ => ⟨[], rfl, trivial⟩
  | c :: L, x :: xs, h => by
    obtain ⟨⟨v, rfl, h1⟩, h2⟩ := h
    obtain ⟨vs, rfl, h3⟩ := allR_encQ h2
    exact ⟨v :: vs, rfl, h1, h3⟩
theorem rd_queues : RD enc W spare held (fun vs (l : List PQ) => ∃ v, vs = [v] ∧ ∀ h, DQueues 0 h v l) 39 := by
  intro n cs x h
  obtain ⟨v, L, xs, h1, h2, h3, h4, h5⟩ := read_slice (es := 2) Tryz.underlying39 (by kernel_rfl) (by decide) rd_queue h
  obtain ⟨vs, rfl, h6⟩ := allR_encQ h5
  exact ⟨[v], xs, h1, ⟨v, rfl, fun h => ⟨vs, h3 h, h4, h6.imp fun v x d => d h⟩⟩, by show cond v.atom true false = true; rw [h2]; rfl⟩

theorem trod_struct3 {t : TypeId} {f0 f1 f2 : Field} {fuel : Nat} {cs : List Value} {x : DataW K × List MemPlace} (ht : Tryz.prog.underlying t = some (.struct #[f0, f1, f2])) (h : DataW.trod enc Tryz.prog W 0 spare held fuel t cs = some x) :
    ∃ y0 y1 y2 n, cs.length = Tryz.prog.cellsOf t ∧ DataW.trod enc Tryz.prog W 0 spare held n f0.type ((cs.drop f0.offset).take (Tryz.prog.cellsOf f0.type)) = some y0 ∧
      DataW.trod enc Tryz.prog W 0 spare held n f1.type ((cs.drop f1.offset).take (Tryz.prog.cellsOf f1.type)) = some y1 ∧ DataW.trod enc Tryz.prog W 0 spare held n f2.type ((cs.drop f2.offset).take (Tryz.prog.cellsOf f2.type)) = some y2 := by
  obtain ⟨xs, n, _, rfl, hl, hlen, hf⟩ := DataW.trod_struct ht h
  match xs, hlen with
  | [y0, y1, y2], _ => exact ⟨y0, y1, y2, n, hl, by simpa using hf 0 f0 rfl, by simpa using hf 1 f1 rfl, by simpa using hf 2 f2 rfl⟩

theorem rd_wait : RD enc W spare held (fun vs (w : PW) => ∃ v, vs = [int w.nth, int w.at', int w.node, v] ∧ ∀ h, DVals 0 h v w.env) 123 := by
  intro n cs x h
  obtain ⟨y0, y1, m, _, hl, h0, h1⟩ := Go.ChangeShapes.trod_struct2 Tryz.underlying123 h
  have e4 : Tryz.prog.cellsOf 123 = 4 := by kernel_rfl
  have e3 : Tryz.prog.cellsOf 3 = 1 := by kernel_rfl
  have e49 : Tryz.prog.cellsOf 49 = 3 := by kernel_rfl
  have e47 : Tryz.prog.cellsOf 47 = 1 := by kernel_rfl
  rw [e4] at hl
  simp only [e3, e49] at h0 h1
  obtain ⟨a, c0, _, _⟩ := DataW.trod_int Tryz.underlying3 h0
  obtain ⟨z0, z1, z2, m', hl', k0, k1, k2⟩ := trod_struct3 Tryz.underlying49 h1
  simp only [e3, e47] at k0 k1 k2
  obtain ⟨b, c1, _, _⟩ := DataW.trod_int Tryz.underlying3 k0
  obtain ⟨c, c2, _, _⟩ := DataW.trod_int Tryz.underlying3 k1
  obtain ⟨_, l, r1, ⟨v, rfl, r2⟩, r3⟩ := rd_vals _ _ _ k2
  match cs, hl with
  | [p, q, r, s], _ =>
    simp at c0 c1 c2
    subst c0 c1 c2
    exact ⟨[int a, int b, int c, v], ⟨a, b, c, l⟩, LRel.cons (by simp only [VRel]) (LRel.cons (by simp only [VRel]) (LRel.cons (by simp only [VRel]) r1)), ⟨v, rfl, r2⟩, r3⟩
theorem allR_encW : ∀ {L : List (List V)} {xs : List PW}, AllR (fun vs (w : PW) => ∃ v, vs = [int w.nth, int w.at', int w.node, v] ∧ ∀ h, DVals 0 h v w.env) L xs → ∃ vs : List V, L = encW vs xs ∧ All2 (fun v (w : PW) => ∀ h, DVals 0 h v w.env) vs xs
  | [], [], _ => ⟨[], rfl, trivial⟩
  | c :: L, x :: xs, h => by
    obtain ⟨⟨v, rfl, h1⟩, h2⟩ := h
    obtain ⟨vs, rfl, h3⟩ := allR_encW h2
    exact ⟨v :: vs, rfl, h1, h3⟩
theorem rd_waits : RD enc W spare held (fun vs (l : List PW) => ∃ v, vs = [v] ∧ ∀ h, DWaits 0 h v l) 40 := by
  intro n cs x h
  obtain ⟨v, L, xs, h1, h2, h3, h4, h5⟩ := read_slice (es := 4) Tryz.underlying40 (by kernel_rfl) (by decide) rd_wait h
  obtain ⟨vs, rfl, h6⟩ := allR_encW h5
  exact ⟨[v], xs, h1, ⟨v, rfl, fun h => ⟨vs, h3 h, h4, h6.imp fun v x d => d h⟩⟩, by show cond v.atom true false = true; rw [h2]; rfl⟩

theorem rd_parcel : RD enc W spare held (fun vs (x : PX) => ∀ h, DParcel 0 h (.agg vs) x) 42 := by
  intro n cs x h
  obtain ⟨y0, y1, y2, m, hl, h0, h1, h2⟩ := trod_struct3 Tryz.underlying42 h
  have e3 : Tryz.prog.cellsOf 42 = 3 := by kernel_rfl
  have e38 : Tryz.prog.cellsOf 38 = 1 := by kernel_rfl
  have e39 : Tryz.prog.cellsOf 39 = 1 := by kernel_rfl
  have e40 : Tryz.prog.cellsOf 40 = 1 := by kernel_rfl
  rw [e3] at hl
  simp only [e38, e39, e40] at h0 h1 h2
  obtain ⟨_, a, r1, ⟨va, rfl, s1⟩, t1⟩ := rd_ints _ _ _ h0
  obtain ⟨_, b, r2, ⟨vb, rfl, s2⟩, t2⟩ := rd_queues _ _ _ h1
  obtain ⟨_, c, r3, ⟨vc, rfl, s3⟩, t3⟩ := rd_waits _ _ _ h2
  match cs, hl with
  | [p, q, r], _ =>
    exact ⟨[va, vb, vc], ⟨a, b, c⟩, LRel.append r1 (LRel.append r2 r3), fun h => ⟨va, vb, vc, rfl, s1 h, s2 h, s3 h⟩, allAtoms_append (m := [vb, vc]) t1 (allAtoms_append (m := [vc]) t2 t3)⟩
theorem rd_letter : RD enc W spare held (fun vs (l : PL) => ∀ h, DLetter 0 h (.agg vs) l) 59 := by
  intro n cs x h
  obtain ⟨y0, y1, m, _, hl, h0, h1⟩ := Go.ChangeShapes.trod_struct2 Tryz.underlying59 h
  have e2 : Tryz.prog.cellsOf 59 = 2 := by kernel_rfl
  have e3 : Tryz.prog.cellsOf 3 = 1 := by kernel_rfl
  have e47 : Tryz.prog.cellsOf 47 = 1 := by kernel_rfl
  rw [e2] at hl
  simp only [e3, e47] at h0 h1
  obtain ⟨a, c0, _, _⟩ := DataW.trod_int Tryz.underlying3 h0
  obtain ⟨_, l, r1, ⟨v, rfl, r2⟩, r3⟩ := rd_vals _ _ _ h1
  match cs, hl with
  | [p, q], _ =>
    simp at c0
    subst c0
    exact ⟨[int a, v], ⟨a, l⟩, LRel.cons (by simp only [VRel]) r1, fun h => ⟨v, rfl, r2 h⟩, r3⟩
end

end A
end Go.Proofs.YtcohlhplpogopaaGreat

