/-
  the contract of slices.Insert. (No statement of the seat is proved here.)
-/
import Derived.Test.YtcohlhplpogopaaGreatGf
import Derived.Test.YtcohlhplpogopaaGreatProg
import Derived.Shelf.Spec.SlicesInsert
import Derived.Lib.AppendZerosOnto
import Derived.Laws.NewBlocks
import Derived.Deep.RegionLaw
import Derived.Test.YtcohlhplpogopaaGreatGg
set_option linter.unusedSimpArgs false
set_option linter.unusedVariables false
namespace Go.Proofs.YtcohlhplpogopaaGreat
namespace A
open Go.Shelf Go.RowKit Go.Lib

set_option maxHeartbeats 4000000 in
set_option maxRecDepth 100000 in
theorem ins_shift (b off c vb voff vc : Nat) (xs ys : List Value) (w W1 W2 : World) (hroom : 2 ≤ c) (hvb : vb ≠ b)
    (tA tB : TypeId) (kA kB : Nat) (hsa : w.shape? vb = some (tA, kA)) (hsb : w.shape? b = some (tB, kB)) (hkB : kB ≠ 0) (hfa : w.frozen? ⟨vb, voff, none⟩ = false) (hfe : w.frozen? ⟨vb, kA, none⟩ = false)
    (hcp1 : ∀ ty dc sc, (Builtin.copy_ #[30, 30] ty #[.slice (some ⟨b, off + 3, none⟩) 1 dc, .slice (some ⟨b, off, none⟩) 2 sc]).run Tryz.prog w.drew = .ok (goInt 1) W1)
    (hcp2 : ∀ ty dc, (Builtin.copy_ #[30, 30] ty #[.slice (some ⟨b, off, none⟩) 2 dc, .slice (some ⟨vb, voff, none⟩) 1 vc]).run Tryz.prog W1 = .ok (goInt 1) W2) :
    Calls Tryz.prog 51 #[.slice (some ⟨b, off, none⟩) 1 c, .int .i64 0, .slice (some ⟨vb, voff, none⟩) 1 vc] w fun e w' =>
      e = .returned (.slice (some ⟨b, off, none⟩) 2 c) ∧ w' = W2 := by
  have hov : ∀ lb cb, (callFunc 129 #[.slice (some ⟨vb, voff, none⟩) 1 vc, .slice (some ⟨b, off + 3, none⟩) lb cb]).run Tryz.prog w = .ok (.value (.bool false)) w := fun lb cb => by
    rw [run_callFunc_extern Tryz.func129 (by kernel_rfl) (by kernel_rfl) (by kernel_rfl) (e := Extern.SlicesOverlaps.overlaps #[30, 30] #[4]) (by kernel_rfl),
      Lib.run_overlaps_apart w 30 4 49 Tryz.underlying30 3 (fun w => by kernel_rfl) ⟨vb, voff, none⟩ ⟨b, off + 3, none⟩ 1 vc lb cb hvb tA tB kA kB hsa hsb hkB hfa hfe]
    rfl
  have hc1 : ¬ (c = 1) := by omega
  have hc0 : ¬ (c = 0) := by omega
  have hc2 : ¬ ((c : Int) < 2) := by omega
  have hc3 : 1 ≤ c := by omega
  have hw1 : IntKind.i64.wrap 1 = 1 := by rw [IntKind.wrap_i64]; omega
  have ht1 : (1 : Int).toNat = 1 := rfl
  go_enter Tryz.func51, Tryz.ntmps51
  go_wp2_with (simp only [hov])
  go_region_law (refine step_copy_runI rfl _ _ 30 30 rfl _ _ (by simp [Act.eval, Act.put]) (by simp [Act.eval, Act.put]) (hcp1 _ _ _) ?_)
  go_wp2_with (at_builtin; refine wpList_copy_runI _ rfl _ _ 30 30 rfl _ _ rfl rfl (hcp2 _ _) ?_)
  go_ret
  exact ⟨rfl, rfl⟩

set_option maxHeartbeats 4000000 in
set_option maxRecDepth 100000 in
theorem ins_grow (b off vb voff vc : Nat) (w W1 W2 W3 : World) (nc : Nat) (hnc : 2 ≤ nc)
    (happ : ∀ ty, (Builtin.append_ #[30, 3] ty #[.slice (some ⟨b, off, none⟩) 0 1, .int .i64 2]).run Tryz.prog w = .ok (.slice (some ⟨w.heap.size, 0, none⟩) 2 nc) W1)
    (hcp1 : ∀ ty dc, (Builtin.copy_ #[30, 30] ty #[.slice (some ⟨w.heap.size, 0, none⟩) 2 dc, .slice (some ⟨vb, voff, none⟩) 1 vc]).run Tryz.prog W1 = .ok (goInt 1) W2)
    (hcp2 : ∀ ty dc sc, (Builtin.copy_ #[30, 30] ty #[.slice (some ⟨w.heap.size, 3, none⟩) 1 dc, .slice (some ⟨b, off, none⟩) 1 sc]).run Tryz.prog W2.drew = .ok (goInt 1) W3) :
    Calls Tryz.prog 51 #[.slice (some ⟨b, off, none⟩) 1 1, .int .i64 0, .slice (some ⟨vb, voff, none⟩) 1 vc] w fun e w' =>
      e = .returned (.slice (some ⟨w.heap.size, 0, none⟩) 2 nc) ∧ w' = W3 := by
  have hn0 : ¬ (nc = 0) := by omega
  have hn1 : ¬ (nc = 1) := by omega
  have hn2 : 1 ≤ nc := by omega
  have hw1 : IntKind.i64.wrap 1 = 1 := by rw [IntKind.wrap_i64]; omega
  have ht1 : (1 : Int).toNat = 1 := rfl
  go_enter Tryz.func51, Tryz.ntmps51
  go_wp2_with (first
    | (at_builtin; refine Lib.wpList_append_run _ rfl _ _ _ _ rfl _ _ rfl rfl _ _ (happ _) ?_)
    | (at_builtin; refine wpList_copy_runI _ rfl _ _ 30 30 rfl _ _ rfl rfl (hcp1 _ _) ?_))
  go_region_law (refine step_copy_runI rfl _ _ 30 30 rfl _ _ (by simp [Act.eval, Act.put]) (by simp [Act.eval, Act.put]) (hcp2 _ _ _) ?_)
  go_wp2
  go_ret
  exact ⟨rfl, rfl⟩

end A
end Go.Proofs.YtcohlhplpogopaaGreat

namespace Go.Proofs.YtcohlhplpogopaaGreat
namespace A
open Go.Shelf Go.RowKit Go.Lib

theorem copy3 {W W' : World} {blk off dl dc sl sc n : Nat} {a : Addr} {ty : TypeId} {xs : List Value} (hn : Nat.min sl dl = n) (hl : xs.length = n * 3) (hsrc : ∀ j v, xs[j]? = some v → W.cell? (a.add j) = some v)
    (hst : (storeCells ⟨blk, off, none⟩ xs).run Tryz.prog W = .ok () W') :
    (Builtin.copy_ #[30, 30] ty #[.slice (some ⟨blk, off, none⟩) dl dc, .slice (some a) sl sc]).run Tryz.prog W = .ok (goInt n) W' := by
  have h1 := run_loadCells_list (P := Tryz.prog) W a xs hsrc
  rw [hl] at h1
  have hes : sizeP Tryz.prog 49 = some 3 := by kernel_rfl
  have e1 : Tryz.prog.underlying 30 = some (.slice 49) := Tryz.underlying30
  have hf : (Builtin.firstCells 3 n (.slice (some a) sl sc)).run Tryz.prog W = .ok xs.toArray W := h1
  have hlen : (Builtin.lenOf (.slice (some a) sl sc)).run Tryz.prog W = .ok sl W := rfl
  simp only [Builtin.copy_, List.getElem?_toArray, List.getElem?_cons_zero, List.getElem?_cons_succ, Sem.run_bind, run_und e1, Result.andThen_ok, hlen, sizeP_run hes, hn, hf, hst, Sem.run_pure]

theorem lrel3 {σ : Sg} {m : World} {l : List V} {xs : List Value} (h : LRel σ m l xs) (hl : l.length = 3) : xs.length = 3 := by rw [h.length, hl]

theorem insOk_some {off len es off' len' es' b b' : Nat} {i : V} (h : insOk off len es i off' len' es' b b' = true) : off = 0 ∧ len = 1 ∧ es = 3 ∧ i = .lit (.int .i64 0) ∧ off' = 0 ∧ len' = 1 ∧ es' = 3 ∧ b ≠ b' := by
  unfold insOk at h
  simp only [Bool.and_eq_true] at h
  obtain ⟨⟨h1, h2, h3⟩, h4, ⟨h5, h6, h7⟩, h8⟩ := h
  refine ⟨Nat.eq_of_beq_eq_true h1, Nat.eq_of_beq_eq_true h2, Nat.eq_of_beq_eq_true h3, ?_, Nat.eq_of_beq_eq_true h5, Nat.eq_of_beq_eq_true h6, Nat.eq_of_beq_eq_true h7, ?_⟩
  · unfold isZero at h4
    split at h4
    · rw [Bool.and_eq_true] at h4
      rw [beqK_eq h4.1, eqI_eq' h4.2]
    · cases h4
  · rintro rfl; rw [Nat.beq_refl] at h8; cases h8

theorem insBoth_some {h h' : H} {b : Nat} {o o' : Option (List V)} {r : Ret} (hs : insBoth h b o o' = some (r, h')) : ∃ x y, o = some x ∧ o' = some y ∧ allB x = false ∧ allB y = false ∧ allAtoms x = true ∧ allAtoms y = true ∧
    r = .ok (.slc h.next 0 2 3 none) ∧ h' = (h.set b none).new (.cells (y ++ x)) := by
  unfold insBoth at hs
  split at hs
  · rename_i x y
    obtain ⟨h1, h2⟩ := condN_some hs
    simp only [Bool.and_eq_true, Bool.not_eq_true'] at h1
    cases h2
    exact ⟨x, y, rfl, rfl, h1.1.1, h1.1.2, h1.2.1, h1.2.2, rfl, by rw [appL_eq]⟩
  · cases hs

theorem cutO_some {o : Option (List V)} {off n : Nat} {x : List V} (h : cutO o off n = some x) : ∃ l, o = some l ∧ cut l off n = some x := by
  unfold cutO at h; split at h
  · exact ⟨_, rfl, h⟩
  · cases h

theorem setC_pushW (w : World) (c c' : Array Value) (e : TypeId) : setC (pushW w (.cells c e)) w.heap.size c' = pushW w (.cells c' e) := by
  have : (w.heap.push (.cells c e)).modify w.heap.size (fun | .cells _ e fr => .cells c' e fr | o => o) = w.heap.push (.cells c' e) := by
    apply Array.ext_getElem?
    intro i
    rw [Array.getElem?_modify, Array.getElem?_push, Array.getElem?_push]
    by_cases hi : i = w.heap.size
    · subst hi; simp
    · rw [if_neg hi, if_neg hi, if_neg (fun e => hi e.symm)]
  exact congrArg (fun hp => ({ w with heap := hp } : World)) this

section
variable {σ : Sg} {m w : World} {h : H}

/-- the cells that are known of a block. -/
theorem Lies.row {blk off size n : Nat} {l x : List V} (hl : Lies σ m w blk off size l) (hx : cut l 0 n = some x) : ∃ xs, LRel σ m x xs ∧ xs.length = n ∧ (∀ j v, xs[j]? = some v → w.cell? ⟨blk, off + j, none⟩ = some v) ∧
    ∃ c e fr, w.heap[blk]? = some (.cells c e fr) ∧ c.size = size ∧ off + n ≤ size ∧ (∀ i, i < size → ¬ (fr.1 ≤ i ∧ i < fr.2)) ∧ (fr.1 ≤ size ∧ size < fr.2 → allB l = true) ∧ xs = (c.toList.drop off).take n := by
  obtain ⟨c, e, fr, h1, h2, h3, h4, h5, h6, h7⟩ := hl
  obtain ⟨g1, g2⟩ := cut_some hx
  rw [List.drop_zero] at g1
  have hn : n ≤ l.length := by
    rw [g1, List.length_take] at g2; omega
  have hcl : c.toList.length = size := by simpa using h2
  refine ⟨(c.toList.drop off).take n, ?_, ?_, ?_, c, e, fr, h1, h2, by omega, h4, h7, rfl⟩
  · have := LRel.take n h5
    rw [← g1, List.take_take, Nat.min_eq_left hn] at this
    exact this
  · rw [List.length_take, List.length_drop, hcl]; omega
  · intro j v hj
    rw [List.getElem?_take] at hj
    split at hj
    · rw [List.getElem?_drop] at hj
      simp only [World.cell?, h1]
      simpa using hj
    · cases hj

end

theorem insert1_ok (m : World) : CallOK Tryz.prog m (fun id vs h => cond (Nat.beq 51 id) (insert1 vs h) none) := by
  have key : ∀ vs h r h', insert1 vs h = some (r, h') → ∃ b off len es cap i b' off' len' es' cap' x y, vs = [.slc b off len es cap, i, .slc b' off' len' es' cap'] ∧ insOk off len es i off' len' es' b b' = true ∧
      cutO (h.cells b) 0 3 = some x ∧ cutO (h.cells b') 0 3 = some y ∧ allB x = false ∧ allB y = false ∧ allAtoms x = true ∧ allAtoms y = true ∧ r = .ok (.slc h.next 0 2 3 none) ∧ h' = (h.set b none).new (.cells (y ++ x)) := by
    intro vs h r h' hs
    unfold insert1 at hs
    split at hs
    · rename_i b off len es cap i b' off' len' es' cap'
      obtain ⟨h1, h2⟩ := condN_some hs
      obtain ⟨x, y, g⟩ := insBoth_some h2
      exact ⟨b, off, len, es, cap, i, b', off', len', es', cap', x, y, rfl, h1, g⟩
    · cases hs
  refine ⟨?_, ?_, ?_⟩
  · intro id vs h r h' hs
    obtain ⟨_, hs⟩ := condN_some hs
    obtain ⟨b, _, _, _, _, _, _, _, _, _, _, x, y, _, _, _, _, _, _, _, _, _, rfl⟩ := key _ _ _ _ hs
    rw [H.next_new, H.next_set]; omega
  · intro id vs h r h' hs
    obtain ⟨hid, _⟩ := condN_some hs
    obtain rfl := Nat.eq_of_beq_eq_true hid
    exact ⟨Tryz.f51, by kernel_rfl, by rw [show Tryz.f51.name = "slices.Insert[[]cabotage/api.SolWait,cabotage/api.SolWait]" from by kernel_rfl]; decide, by intro e; cases e⟩
  · intro id vs h r h' hs σ w args hargs hw hf
    obtain ⟨hid, hs⟩ := condN_some hs
    obtain rfl := Nat.eq_of_beq_eq_true hid
    obtain ⟨b, off, len, es, cap, i, b', off', len', es', cap', x, y, rfl, hok, hx, hy, hxb, hyb, hxa, hya, rfl, rfl⟩ := key _ _ _ _ hs
    obtain ⟨rfl, rfl, rfl, rfl, rfl, rfl, rfl, hbb⟩ := insOk_some hok
    obtain ⟨a1, r1, ha, hv1, hr1⟩ : ∃ a r, args.toList = a :: r ∧ VRel σ m (.slc b 0 1 3 cap) a ∧ LRel σ m [.lit (.int .i64 0), .slc b' 0 1 3 cap'] r := by simpa only [LRel] using hargs
    obtain ⟨a2, r2, rfl, hv2, hr2⟩ : ∃ a r, r1 = a :: r ∧ VRel σ m (.lit (.int .i64 0)) a ∧ LRel σ m [.slc b' 0 1 3 cap'] r := by simpa only [LRel] using hr1
    obtain ⟨a3, r3, rfl, hv3, hr3⟩ : ∃ a r, r2 = a :: r ∧ VRel σ m (.slc b' 0 1 3 cap') a ∧ LRel σ m [] r := by simpa only [LRel] using hr2
    rw [LRel.nil_iff] at hr3; subst hr3
    obtain rfl := litV_rel hv2
    obtain ⟨l, hl, hxl⟩ := cutO_some hx
    obtain ⟨l', hl', hyl⟩ := cutO_some hy
    have hg := cellsOf_some (show cellsOf (h.get b) = some l from hl)
    have hg' := cellsOf_some (show cellsOf (h.get b') = some l' from hl')
    obtain ⟨blk, k, size, l0, c, hg0, hσ, rfl, hlc, hsz, _, hlies⟩ := slc_live hw hv1 hg
    rw [hg] at hg0; cases hg0
    obtain ⟨blk', k', size', l0', c', hg0', hσ', rfl, hlc', hsz', _, hlies'⟩ := slc_live hw hv3 hg'
    rw [hg'] at hg0'; cases hg0'
    have hblk : blk' ≠ blk := by
      rintro rfl
      exact hbb (hw.inj b b' _ (.inl ⟨_, _, hσ⟩) (.inl ⟨_, _, hσ'⟩))
    obtain ⟨xs, hxr, hxlen, hxc, cc, ce, cf, c1, c2, c3, c4, c5, c6⟩ := hlies.row hxl
    obtain ⟨ys, hyr, hylen, hyc, dd, de, df, d1, d2, d3, d4, d5, d6⟩ := hlies'.row hyl
    have hlb : allB l = false := by
      cases hb : allB l with
      | false => rfl
      | true =>
        obtain ⟨g1, _⟩ := cut_some hxl
        rw [allB_iff] at hb
        have : allB x = true := by rw [allB_iff, g1]; exact fun v hv => hb v (List.mem_of_mem_drop (List.mem_of_mem_take hv))
        rw [hxb] at this; cases this
    have hlb' : allB l' = false := by
      cases hb : allB l' with
      | false => rfl
      | true =>
        obtain ⟨g1, _⟩ := cut_some hyl
        rw [allB_iff] at hb
        have : allB y = true := by rw [allB_iff, g1]; exact fun v hv => hb v (List.mem_of_mem_drop (List.mem_of_mem_take hv))
        rw [hyb] at this; cases this
    have hargs' : args = #[.slice (some ⟨blk, k + 0, none⟩) 1 c, .int .i64 0, .slice (some ⟨blk', k' + 0, none⟩) 1 c'] := by
      obtain ⟨args⟩ := args
      simp only at ha
      rw [ha]
    subst hargs'
    simp only [Nat.add_zero] at *
    have hfn : σ h.next = none := hf _ (Nat.le_refl _) (by rw [H.next_new, H.next_set]; omega)
    have hbn : b < h.next := by
      rcases Nat.lt_or_ge b h.next with h1 | h1
      · exact h1
      · have := hw.fresh b h1; rw [hg] at this; cases this
    have hxa' := atoms_rel hxr hxa
    have hya' := atoms_rel hyr hya
    have hxL : x.length = 3 := by rw [← hxr.length]; exact hxlen
    have hyL : y.length = 3 := by rw [← hyr.length]; exact hylen
    have hccl : cc.toList.length = size := by simpa using c2
    by_cases hc : 2 ≤ c
    · -- in place
      have hroom : k + 6 ≤ size := by omega
      have hst1 := run_storeCells (P := Tryz.prog) (blk := blk) (off := k + 3) xs 0 w.drew cc ce cf c1 (by omega) (by rw [c2]; exact c4) hxa'
      simp only [Nat.add_zero] at hst1
      generalize hW1 : setC w.drew blk (cc.toList.take (k + 3) ++ xs ++ cc.toList.drop (k + 3 + xs.length)).toArray = W1 at hst1
      generalize hcc1 : (cc.toList.take (k + 3) ++ xs ++ cc.toList.drop (k + 3 + xs.length)).toArray = cc1 at hW1
      have hcc1s : cc1.size = size := by rw [← hcc1]; simp; omega
      have e1 : W1.heap[blk]? = some (.cells cc1 ce cf) := by
        rw [← hW1, setC_get, if_pos rfl]
        show Option.map _ w.heap[blk]? = _
        rw [c1]; rfl
      have e2 : W1.heap[blk']? = w.heap[blk']? := by
        rw [← hW1, setC_get, if_neg hblk]; rfl
      have hst2 := run_storeCells (P := Tryz.prog) (blk := blk) (off := k) ys 0 W1 cc1 ce cf e1 (by omega) (by rw [hcc1s]; exact c4) hya'
      simp only [Nat.add_zero] at hst2
      have hyc1 : ∀ j v, ys[j]? = some v → W1.cell? ((⟨blk', k', none⟩ : Addr).add j) = some v := by
        intro j v hj
        have := hyc j v hj
        rw [add_none]
        simp only [World.cell?] at this ⊢
        rw [e2]; exact this
      have hxc1 : ∀ j v, xs[j]? = some v → w.drew.cell? ((⟨blk, k, none⟩ : Addr).add j) = some v := by
        intro j v hj
        rw [add_none]; exact hxc j v hj
      have hsa : w.shape? blk' = some (de, size') := by simp [World.shape?, d1, d2]
      have hsb : w.shape? blk = some (ce, size) := by simp [World.shape?, c1, c2]
      have hfa : w.frozen? ⟨blk', k', none⟩ = false := by
        have := d4 k' (by omega)
        simp only [World.frozen?, d1, Option.isSome_none, Bool.false_eq_true]
        simpa using this
      have hfe : w.frozen? ⟨blk', size', none⟩ = false := by
        have : ¬ (df.1 ≤ size' ∧ size' < df.2) := by
          intro hh
          have := d5 hh; rw [hlb'] at this; cases this
        simp only [World.frozen?, d1, Option.isSome_none, Bool.false_eq_true]
        simpa using this
      have hwalk := ins_shift blk k c blk' k' c' xs ys w W1 _ hc hblk de ce size' size hsa hsb (by omega) hfa hfe
        (fun ty dc sc => copy3 (n := 1) rfl (by rw [hxlen]) hxc1 hst1)
        (fun ty dc => copy3 (n := 1) rfl (by rw [hylen]) hyc1 hst2)
      refine Calls.mono hwalk ?_
      rintro e w' ⟨rfl, rfl⟩
      have hlies0 : Lies σ m w blk k size x := by
        refine ⟨cc, ce, cf, c1, c2, by omega, c4, ?_, hxa, fun hh => ?_⟩
        · rw [hxL, ← c6]; exact hxr
        · have := c5 hh; rw [hlb] at this; cases this
      have hlies1 : Lies σ m w.drew blk k size x := hlies0
      obtain ⟨t1, t2⟩ := (hw.draw (w.drawn + 1)).taken hg hσ hfn hlies1
      have hσ1 : upd (kill σ b) h.next (.at blk k size) h.next = some (.at blk k size) := by simp [upd]
      have hg1 : ((h.set b none).new (.cells x)).get h.next = some (.cells x) := by rw [H.get_new, H.next_set, if_pos rfl]
      have hlay : (((cc1.toList.take k ++ ys ++ cc1.toList.drop (k + ys.length)).toArray.toList.drop k).take (y ++ x).length) = ys ++ xs := by
        apply List.ext_getElem?
        intro j
        have hc1l : cc1.toList.length = size := by simpa using hcc1s
        have hcc1' : cc1.toList = cc.toList.take (k + 3) ++ xs ++ cc.toList.drop (k + 3 + xs.length) := by rw [← hcc1]
        simp only [List.getElem?_take, List.getElem?_drop, List.getElem?_append, List.length_append, List.length_take, hc1l, hyL, hxL, hylen]
        have m1 : min k size = k := by omega
        rw [m1]
        by_cases i1 : j < 3
        · simp only [i1, show j < 3 + 3 from by omega, show k + j < k + 3 from by omega, show ¬ k + j < k from by omega, if_true, if_false]
          rw [show k + j - k = j from by omega]
        · by_cases i2 : j < 6
          · simp only [i1, show j < 3 + 3 from by omega, show ¬ k + j < k + 3 from by omega, if_true, if_false]
            rw [hcc1', List.append_assoc, List.getElem?_append_right (by rw [List.length_take, hccl]; omega), List.length_take, hccl, List.getElem?_append_left (by rw [hxlen]; omega)]
            congr 1
            omega
          · rw [if_neg (by omega), if_neg (by omega), List.getElem?_eq_none (by rw [hxlen]; omega)]
      obtain ⟨p1, p2⟩ := t1.poke (l' := y ++ x) hg1 hσ1 (w := w.drew) c1 (c' := (cc1.toList.take k ++ ys ++ cc1.toList.drop (k + ys.length)).toArray) (by simp; omega) (by rw [List.length_append, hxL, hyL]; omega)
        (by rw [hlay]; exact LRel.append (LRel.ext t2.ext _ _ hyr) (LRel.ext t2.ext _ _ hxr)) (allAtoms_append hya hxa) (fun hh => by have := c5 hh; rw [hlb] at this; cases this)
      have hheq := kill_new_set h b (.cells x) (.cells (y ++ x))
      have hWW : setC W1 blk (cc1.toList.take k ++ ys ++ cc1.toList.drop (k + ys.length)).toArray = setC w.drew blk (cc1.toList.take k ++ ys ++ cc1.toList.drop (k + ys.length)).toArray := by
        rw [← hW1, setC_setC]
      refine ⟨.slc h.next 0 2 3 none, upd (kill σ b) h.next (.at blk k size), rfl, ?_, ?_, ?_⟩
      · simp only [VRel, SRel, hσ1]
        exact ⟨c, by simp, hc, by omega, fun j e => by cases e⟩
      · rw [hWW]; exact p1.congr hheq
      · rw [hWW]
        have := (Good.trans (fun b1 h2 h3 => hf b1 h2 (by rw [H.next_new, H.next_set] at h3 ⊢; exact h3)) t2 p2).congr hheq
        exact this.redraw
    · -- a new row
      obtain rfl : c = 1 := by omega
      have hinfo : Tryz.prog.info? 49 = some Tryz.t49 := by kernel_rfl
      have hhold : (Builtin.firstCells Tryz.t49.size 0 (.slice (some ⟨blk, k, none⟩) 0 1)).run Tryz.prog w.drew = .ok ([] : List Value).toArray w.drew := by
        have hsz : Tryz.t49.size = 3 := by kernel_rfl
        rw [hsz]
        exact run_loadCells_list (P := Tryz.prog) w.drew ⟨blk, k, none⟩ [] (fun j v hj => by simp at hj)
      have hcap := grownCap_ge w 2 1 49
      have happ := fun ty => Lib.run_append_grow_zeros (P := Tryz.prog) w 30 3 ty 49 Tryz.t49 (.agg #[.int .i64 0, .int .i64 0, .slice none 0 0]) .i64 .i64 Tryz.underlying30 Tryz.underlying3 hinfo (by kernel_rfl) (some ⟨blk, k, none⟩) 0 1 [] hhold 2 (by omega)
        (by rw [show Tryz.t49.size = 3 from by kernel_rfl]; omega) (by omega) (by omega) (by rw [show Tryz.t49.bytes = 40 from by kernel_rfl]; omega) (by rw [show Tryz.t49.bytes = 40 from by kernel_rfl]; decide +kernel)
      simp only [Nat.zero_add] at happ
      generalize grownCap w 2 1 49 = nc at hcap happ
      generalize hC0 : (([] : List Value).toArray ++ Builtin.zeroCells (Value.agg #[.int .i64 0, .int .i64 0, .slice none 0 0]).cells 2 ++ Builtin.zeroCells (Value.agg #[.int .i64 0, .int .i64 0, .slice none 0 0]).cells (nc - 2)) = C0 at happ
      have hC0s : C0.size = nc * 3 := by
        rw [← hC0, Array.size_append, Array.size_append, zeroCells_size, zeroCells_size]
        show 0 + 2 * 3 + (nc - 2) * 3 = nc * 3
        omega
      have hw1 : (w.drew.alloc (.cells C0 49)) = pushW w.drew (.cells C0 49) := rfl
      rw [hw1] at happ
      have hn : w.drew.heap.size = w.heap.size := rfl
      have e1 : (pushW w.drew (.cells C0 49)).heap[w.heap.size]? = some (.cells C0 49 (0, 0)) := (pushW_get w.drew _ _).trans (if_pos (show w.heap.size = w.drew.heap.size from rfl))
      have hst1 := run_storeCells (P := Tryz.prog) (blk := w.heap.size) (off := 0) ys 0 (pushW w.drew (.cells C0 49)) C0 49 (0, 0) e1 (by omega) (nf0 _) hya'
      rw [show setC (pushW w.drew (.cells C0 49)) w.heap.size _ = pushW w.drew (.cells _ 49) from setC_pushW w.drew C0 _ 49] at hst1
      generalize hC1 : (C0.toList.take (0 + 0) ++ ys ++ C0.toList.drop (0 + 0 + ys.length)).toArray = C1 at hst1
      have hC1s : C1.size = nc * 3 := by rw [← hC1]; simp; omega
      have e2 : (pushW w.drew.drew (.cells C1 49)).heap[w.heap.size]? = some (.cells C1 49 (0, 0)) := (pushW_get w.drew.drew _ _).trans (if_pos (show w.heap.size = w.drew.drew.heap.size from rfl))
      have hst2 := run_storeCells (P := Tryz.prog) (blk := w.heap.size) (off := 3) xs 0 (pushW w.drew.drew (.cells C1 49)) C1 49 (0, 0) e2 (by omega) (nf0 _) hxa'
      rw [show setC (pushW w.drew.drew (.cells C1 49)) w.heap.size _ = pushW w.drew.drew (.cells _ 49) from setC_pushW w.drew.drew C1 _ 49] at hst2
      generalize hC2 : (C1.toList.take (3 + 0) ++ xs ++ C1.toList.drop (3 + 0 + xs.length)).toArray = C2 at hst2
      have hC2s : C2.size = nc * 3 := by rw [← hC2]; simp; omega
      have hblt : blk < w.heap.size := (Array.getElem?_eq_some_iff.1 c1).1
      have hblt' : blk' < w.heap.size := (Array.getElem?_eq_some_iff.1 d1).1
      have hyc1 : ∀ j v, ys[j]? = some v → (pushW w.drew (.cells C0 49)).cell? ((⟨blk', k', none⟩ : Addr).add j) = some v := by
        intro j v hj
        have := hyc j v hj
        rw [add_none]
        simp only [World.cell?] at this ⊢
        rw [pushW_get, if_neg (by rw [hn]; omega)]; exact this
      have hxc1 : ∀ j v, xs[j]? = some v → (pushW w.drew (.cells C1 49)).drew.cell? ((⟨blk, k, none⟩ : Addr).add j) = some v := by
        intro j v hj
        have := hxc j v hj
        rw [add_none]
        simp only [World.cell?] at this ⊢
        show (match (pushW w.drew (.cells C1 49)).heap[blk]? with | some (.cells c _ _) => _ | _ => _) = _
        rw [pushW_get, if_neg (by rw [hn]; omega)]; exact this
      have hwalk := ins_grow blk k blk' k' c' w _ _ (pushW w.drew.drew (.cells C2 49)) nc hcap happ
        (fun ty dc => copy3 (n := 1) rfl (by rw [hylen]) hyc1 hst1)
        (fun ty dc sc => copy3 (n := 1) rfl (by rw [hxlen]) hxc1 hst2)
      refine Calls.mono hwalk ?_
      rintro e w' ⟨rfl, rfl⟩
      obtain ⟨k1, k2⟩ := (hw.draw (w.drawn + 1 + 1)).killed b (by rw [hg]; exact fun e => by cases e)
      have hkn : kill σ b (h.set b none).next = none := by
        show kill σ b h.next = none
        simp [kill, Ne.symm (Nat.ne_of_lt hbn), hfn]
      have hlay : C2.toList.take (y ++ x).length = ys ++ xs := by
        have h1 : C2.toList = C1.toList.take (3 + 0) ++ xs ++ C1.toList.drop (3 + 0 + xs.length) := by rw [← hC2]
        have h2 : C1.toList.take (3 + 0) = ys := by
          have h3 : C1.toList = ys ++ C0.toList.drop ys.length := by rw [← hC1]; simp
          rw [h3, show 3 + 0 = ys.length from by rw [hylen], List.take_left]
        rw [h1, h2, List.length_append, hxL, hyL, show 3 + 3 = (ys ++ xs).length from by rw [List.length_append, hxlen, hylen], List.take_left]
      obtain ⟨p1, p2⟩ := k1.pushCells (l := y ++ x) (c := C2) (e := 49) (fr := (0, 0)) hkn (by rw [List.length_append, hxL, hyL, hC2s]; omega) (nf0 _)
        (by rw [hlay]; exact LRel.append (LRel.ext k2.ext _ _ hyr) (LRel.ext k2.ext _ _ hxr)) (allAtoms_append hya hxa) (fun hh => absurd hh.2 (Nat.not_lt_zero _))
      refine ⟨.slc h.next 0 2 3 none, upd (kill σ b) (h.set b none).next (.at w.drew.drew.heap.size 0 C2.size), rfl, ?_, p1, (Good.trans (fun b1 h2 h3 => by rw [H.next_set] at h3; omega) k2 p2).redraw⟩
      simp only [VRel, SRel, H.next_set, upd, if_true]
      refine ⟨nc, rfl, hcap, by rw [hC2s]; omega, fun j e => by cases e⟩

end A
end Go.Proofs.YtcohlhplpogopaaGreat

