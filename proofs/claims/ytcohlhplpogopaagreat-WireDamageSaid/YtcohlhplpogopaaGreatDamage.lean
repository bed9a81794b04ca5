/-
  WireDamage returns true for every input and leaves its arguments as they were; no condition is added.
-/
import Derived.Test.YtcohlhplpogopaaGreatRows
import Derived.Test.YtcohlhplpogopaaGreatWh
import Derived.ProofKit
import Derived.OpenShut
import Derived.WideKeyArgs
set_option linter.unusedSimpArgs false
set_option linter.unusedVariables false
namespace Go.Proofs.YtcohlhplpogopaaGreat
open Go.ChangeShapes Go.WideShapes Go.ChangeAt Go.RowKit

theorem damage_own : ownKnob Tryz.prog.godebug = none := by kernel_rfl
theorem damage_laidOut : laidOutB Tryz.prog = true := by kernel_rfl

set_option maxRecDepth 100000 in
theorem agg_of {W : World} {r : Reach} {base : Nat} {t : TypeId} {v : Value} {fs : Array Field} (ht : Tryz.prog.underlying t = some (.struct fs)) (h : Value.okWide Tryz.prog W r base t v) : ∃ cs, v = .agg cs := by
  unfold Value.okWide at h
  rw [ht] at h
  obtain ⟨cs, h1, _⟩ := h
  exact ⟨cs, h1⟩

/-- the machine's world and an empty abstract heap. -/
theorem start_rel (W : World) : A.WRel A.sg0 W A.h0 W :=
  ⟨Nat.le_refl _, fun _ _ => rfl, fun b l h => .inl rfl, fun b es h => .inl rfl, fun b b' blk h => (by rcases h with ⟨_, _, h⟩ | h <;> cases h), fun b blk h => (by rcases h with ⟨_, _, h⟩ | h <;> cases h), fun b _ => A.h0_get b⟩

set_option maxRecDepth 100000 in
theorem damage_lifted (os : Os) (started : os.Started) (H : Type) (enc : TypeId × Value → H) :
    ReturnsInHanded {} Tryz.checked os 5 .any (Rows.wireDamageSpec.pre6 enc Tryz.prog Tryz.f5 Rows.wireDamageRow.domain false) (Rows.wireDamageSpec.post enc Tryz.prog Tryz.f5 false true false false) := by
  refine returnsInHanded_of_change (C := Tryz.checked) damage_own started (by kernel_rfl) Tryz.func5
    (ChangeSpec.witness6 (enc := enc) (C := Tryz.checked) false ⟨#[], #[.agg #[.slice none 0 0, .slice none 0 0, .slice none 0 0], .agg #[.int .i64 0, .slice none 0 0], .int .u32 0, .int .u16 0], []⟩ 8 (by kernel_rfl) (by kernel_rfl) (by kernel_rfl) (by kernel_rfl)) ?_
  intro W base args ds gs before hval0 hW _ _
  have hval : ∀ (j : Nat) t v, Tryz.f5.params[j]? = some t → args[j]? = some v → Value.okWide Tryz.prog W .any base t v := hval0
  have hW' := hW
  obtain ⟨p, q, hA0, hV, rfl, _, _⟩ := hW
  have hA : DataW.TrodAll enc Tryz.prog W 0 (fun _ => true) true Tryz.f5.params.toList args.toList ds p := hA0
  rw [Tryz.params5] at hA hval
  obtain ⟨v0, vs0, d0, ds0, p0, q0, e0, rfl, rfl, h0, r0⟩ := trodAll_cons hA
  obtain ⟨v1, vs1, d1, ds1, p1, q1, rfl, rfl, rfl, h1, r1⟩ := trodAll_cons r0
  obtain ⟨v2, vs2, d2, ds2, p2, q2, rfl, rfl, rfl, h2, r2⟩ := trodAll_cons r1
  obtain ⟨v3, vs3, d3, ds3, p3, q3, rfl, rfl, rfl, h3, r3⟩ := trodAll_cons r2
  obtain ⟨rfl, rfl, rfl⟩ := trodAll_nil r3
  obtain rfl : args = #[v0, v1, v2, v3] := by cases args; simp_all
  obtain ⟨rfl, rfl⟩ := trodVars_none hV
  have k2 := h2
  have k3 := h3
  obtain ⟨a2, rfl, rfl, rfl, w2⟩ := open_int Tryz.underlying70 (hval 2 70 v2 rfl rfl) h2
  obtain ⟨a3, rfl, rfl, rfl, w3⟩ := open_int Tryz.underlying71 (hval 3 71 v3 rfl rfl) h3
  obtain ⟨cs0, rfl⟩ := agg_of Tryz.underlying42 (hval 0 42 v0 rfl rfl)
  obtain ⟨cs1, rfl⟩ := agg_of Tryz.underlying59 (hval 1 59 v1 rfl rfl)
  clear hA0 hval0 e0
  have n2 : 0 ≤ a2 ∧ a2 ≤ 4294967295 := by simpa [Lit.wf, IntKind.min, IntKind.max, IntKind.signed, IntKind.bits] using w2
  have n3 : 0 ≤ a3 ∧ a3 ≤ 65535 := by simpa [Lit.wf, IntKind.min, IntKind.max, IntKind.signed, IntKind.bits] using w3
  have k0 := h0
  have k1 := h1
  obtain ⟨f0, g0⟩ := h0
  obtain ⟨f1, g1⟩ := h1
  obtain ⟨vx, x, lx, dx, _⟩ := A.rd_parcel _ _ _ g0
  obtain ⟨vl, l, ll, dl, _⟩ := A.rd_letter _ _ _ g1
  have hwf := A.damage_wf (N := 0) (h := A.h0) (Q := fun r _ => r = .ok (A.bool true)) (at' := a2.toNat) (w := a3.toNat) (fun b _ => A.h0_get b) (Nat.zero_le _) (dx A.h0) (dl A.h0) (by omega) (by omega) (fun _ _ => rfl)
  rw [Int.toNat_of_nonneg n2.1, Int.toNat_of_nonneg n3.1] at hwf
  have hargs : A.LRel A.sg0 W [.agg vx, .agg vl, A.u32 a2, A.u16 a3] [.agg cs0, .agg cs1, .int .u32 a2, .int .u16 a3] :=
    A.LRel.cons (by simp only [A.VRel]; exact ⟨cs0, rfl, lx⟩) (A.LRel.cons (by simp only [A.VRel]; exact ⟨cs1, rfl, ll⟩) (A.LRel.cons (by simp only [A.VRel]) (A.LRel.cons (by simp only [A.VRel]) A.LRel.nil)))
  have run := A.calls_of_WF A.mixed A.fs_ok (A.sp2_ok W) hwf (σ := A.sg0) (w := W) (args := #[.agg cs0, .agg cs1, .int .u32 a2, .int .u16 a3]) hargs (start_rel W) (fun _ _ => rfl)
  refine run.mono fun e W' he => ?_
  obtain ⟨r, h', rfl, he⟩ := he
  cases e with
  | outgrown => exact he.elim
  | panicked ch => obtain ⟨v, σ', x, e, _⟩ := he; cases e
  | returned y =>
    obtain ⟨v, σ', e, hv, _, good⟩ := he
    cases e
    simp only [A.VRel] at hv
    subst hv
    have same : ∀ i, i < W.heap.size → W'.heap[i]? = W.heap[i]? := fun i hi => good.frame i hi (by rintro ⟨b, _, hb⟩; exact hb (A.h0_get b))
    have hlt := fun x hx => hW'.lt x hx
    have stay : ∀ {t : TypeId} {v : Value} {d : DataW H} {ps : List MemPlace}, Tryz.prog.readableRec t = true → t < Tryz.prog.types.size → DataW.Trod enc Tryz.prog W 0 (fun _ => true) true t v d ps → (∀ x ∈ ps, x.block < W.heap.size) → DataW.Trod enc Tryz.prog W' 0 (fun b => decide (b < W.heap.size)) true t v d ps := by
      intro t v d ps hr hs h hb
      refine Go.WideElems.Trod_stays damage_laidOut hr hs h (fun x hx => ?_) (fun x hx => by simpa using hb x hx)
      have hb' := hb x hx
      cases x with
      | cell b off =>
        show W'.cell? ⟨b, off, none⟩ = W.cell? ⟨b, off, none⟩
        unfold World.cell?
        rw [same b hb']
      | map b => exact same b hb'
    refine ⟨_, rfl, _, _, _, [], p0 ++ (p1 ++ ([] ++ ([] ++ []))), [], hW', trodAll_cons_mk (shut_bool Tryz.underlying4 _) trodAll_mk0, ?_, rfl, ⟨good.rest.1, good.rest.2.1, fun i hi => ?_⟩, fun h => by cases h⟩
    · refine trodAll_cons_mk (stay (by kernel_rfl) (of_decide_eq_true (by kernel_rfl)) k0 fun x hx => hlt x (by simp [hx])) (trodAll_cons_mk (stay (by kernel_rfl) (of_decide_eq_true (by kernel_rfl)) k1 fun x hx => hlt x (by simp [hx])) (trodAll_cons_mk (stay (by kernel_rfl) (of_decide_eq_true (by kernel_rfl)) k2 fun x hx => by cases hx) (trodAll_cons_mk (stay (by kernel_rfl) (of_decide_eq_true (by kernel_rfl)) k3 fun x hx => by cases hx) trodAll_mk0)))
    · rw [same i hi]
      cases W.heap[i]? with
      | none => rfl
      | some o =>
        cases o with
        | cells c t fr => exact ⟨rfl, rfl, rfl, fun _ _ => rfl⟩
        | map es clock => exact .inr ⟨rfl, rfl⟩
        | _ => rfl

theorem wireDamage_holds : Rows.WireDamageSaid :=
  OpenClaim.holds_of_wide 5 Tryz.f5 rfl rfl rfl rfl rfl rfl rfl ⟨rfl, rfl, rfl, rfl, rfl⟩ rfl rfl rfl rfl rfl (by kernel_rfl) Tryz.func5 (by kernel_rfl)
    (of_decide_eq_true (by kernel_rfl)) (by unfold Func.isWrapper; first | (rw [if_pos (by decide +kernel)]; kernel_rfl) | (rw [if_neg (by decide +kernel)]; exact ⟨rfl, rfl⟩))
    (fun os started H enc _ => damage_lifted os started H enc)

end Go.Proofs.YtcohlhplpogopaaGreat

