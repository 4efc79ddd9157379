/- 'LogFull': a log has room for so many commands and no more, for every number. -/
import Derived.Test.YtfpmgcpdjlkomaaL20
namespace Go.Proofs.Ytfpmgcpdjlkomaa
open Go.RowKit Go.Px Go.Proofs Go.Shelf Go.ChangeShapes Go.WideShapes Go.ChangeAt
set_option maxHeartbeats 400000
set_option maxRecDepth 100000

theorem logFull_lifted (os : Os) (started : os.Started) (H : Type) (enc : TypeId × Value → H) :
    ReturnsInHanded {} Try.checked os 5 .any (Rows.logFullSpec.pre6 enc Try.prog Try.f5 Rows.logFullRow.domain false) (Rows.logFullSpec.post enc Try.prog Try.f5 false true false false) := by
  refine returnsInHanded_of_change_sized (C := Try.checked) Try.own started (by kernel_rfl) Try.func5
    (ChangeSpec.witness6 (enc := enc) (C := Try.checked) false ⟨#[], #[.int .u16 0], []⟩ 8 (by kernel_rfl) (by kernel_rfl) (by kernel_rfl) (by kernel_rfl)) ?_
  intro W base args ds gs before hval0 hW hcnd hsz0 _
  have hW' := hW
  obtain ⟨p, q, hA0, hV, rfl, hfz, hnd⟩ := hW
  have hA : DataW.TrodAll enc Try.prog W 0 (fun _ => true) true Try.f5.params.toList args.toList ds p := hA0
  have hsz : (DataW.weightsEach Try.prog (Try.f5.params.toList ++ Rows.logFullSpec.plain.varTypes Try.prog) (ds ++ gs)).all (· ≤ reachBytes) = true := hsz0
  rw [Try.params5] at hA hsz
  obtain ⟨v0, d0, rfl, rfl, h0⟩ := trodAll_one hA
  obtain ⟨rfl, rfl⟩ := trodVars_none hV
  clear hA0 hsz0
  simp only [List.append_nil] at hW' hsz
  obtain ⟨a, rfl, rfl, rfl, wa⟩ := open_int Try.underlying46 (hval0 0 46 v0 rfl rfl) h0
  have hb : 0 ≤ a ∧ a < 65536 := by
    simp only [Lit.wf, Bool.and_eq_true, decide_eq_true_eq] at wa
    have h1 : (IntKind.min .u16) = 0 := rfl
    have h2 : (IntKind.max .u16) = 65535 := rfl
    rw [h1, h2] at wa
    omega
  obtain ⟨n, rfl⟩ := Int.eq_ofNat_of_zero_le hb.1
  refine (full_any n (by omega) W).mono fun e W' ⟨he, hch⟩ => ?_
  subst he
  exact ⟨_, rfl, ⟨_, _, _, [], _, [], hW', trodAll_mk1 (shut_bool Try.underlying4 true), trodAll_mk1 (shut_int Try.underlying46 wa), rfl, hch.toBelow.frame _, fun h => by cases h⟩⟩

theorem logFull_holds : Rows.LogFullSaid :=
  OpenClaim.holds_of_wide 5 Try.f5 rfl rfl rfl rfl rfl rfl rfl ⟨rfl, rfl, rfl, rfl, rfl⟩ rfl rfl rfl rfl rfl (by kernel_rfl) Try.func5 (by kernel_rfl)
    (of_decide_eq_true (by kernel_rfl)) (by unfold Func.isWrapper; rw [if_neg (by decide +kernel)]; exact ⟨rfl, rfl⟩)
    (fun os started H enc _ => logFull_lifted os started H enc)
#print axioms logFull_holds
end Go.Proofs.Ytfpmgcpdjlkomaa
