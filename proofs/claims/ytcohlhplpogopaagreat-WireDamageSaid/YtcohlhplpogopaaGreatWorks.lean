/-
  works() returns true. (No statement of the seat is proved here.)
-/
import Derived.Test.YtcohlhplpogopaaGreatFsOk
import Derived.Test.YtcohlhplpogopaaGreatIns
import Derived.KernelRfl
set_option linter.unusedSimpArgs false
set_option linter.unusedVariables false
namespace Go.Proofs.YtcohlhplpogopaaGreat
namespace A
noncomputable def h0 : H := ⟨0, .leaf⟩
noncomputable def isTrue (r : Option (Ret × H)) : Bool :=
  match r with
  | some (.ok (.lit (.bool true)), _) => true
  | _ => false
theorem isTrue_some {r : Option (Ret × H)} (h : isTrue r = true) : ∃ h', r = some (.ok (.lit (.bool true)), h') := by
  unfold isTrue at h
  split at h
  · exact ⟨_, rfl⟩
  · cases h
theorem works_runs : isTrue (evF ckAll sp fs 1000 9 [] h0) = true := by kernel_rfl

theorem mixed : Tryz.prog.follows .mixedOrders = true := by kernel_rfl

theorem sp_ok (m : World) : SpOK Tryz.prog m sp := by
  intro id g hg
  have h' : cond (Nat.beq id 51) (some insert1) none = some g := hg
  obtain ⟨h1, h2⟩ := condN_some h'
  obtain rfl := Nat.eq_of_beq_eq_true h1
  cases h2
  exact insert1_ok m

theorem works_calls (w : World) : Calls Tryz.prog 9 #[] w fun e w' => e = .returned (.bool true) ∧ Same w w' := by
  obtain ⟨h', hr⟩ := isTrue_some works_runs
  exact closed_calls w (evF_ok mixed ckAll_ok fs_ok (sp_ok w) 1000) hr

end A
end Go.Proofs.YtcohlhplpogopaaGreat

