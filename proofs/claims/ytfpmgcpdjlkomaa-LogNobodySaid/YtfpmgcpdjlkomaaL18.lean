/- 'LogNobody': nobody's log keeps nothing, for every command. -/
import Derived.Test.YtfpmgcpdjlkomaaL17
namespace Go.Proofs.Ytfpmgcpdjlkomaa
open Go.RowKit Go.Px Go.Proofs Go.Shelf Go.ChangeShapes Go.WideShapes Go.ChangeAt
set_option maxHeartbeats 400000
set_option maxRecDepth 100000

theorem logNobody_lifted (os : Os) (started : os.Started) (H : Type) (enc : TypeId × Value → H) :
    ReturnsInHanded {} Try.checked os 7 .any (Rows.logNobodySpec.pre6 enc Try.prog Try.f7 Rows.logNobodyRow.domain false) (Rows.logNobodySpec.post enc Try.prog Try.f7 false true false false) := by
  refine returnsInHanded_of_change_sized (C := Try.checked) Try.own started (by kernel_rfl) Try.func7
    (ChangeSpec.witness6 (enc := enc) (C := Try.checked) false ⟨#[], #[zcmd], []⟩ 8 (by kernel_rfl) (by kernel_rfl) (by kernel_rfl) (by kernel_rfl)) ?_
  intro W base args ds gs before hval0 hW hcnd hsz0 _
  have hW' := hW
  obtain ⟨p, q, hA0, hV, rfl, hfz, hnd⟩ := hW
  have hA : DataW.TrodAll enc Try.prog W 0 (fun _ => true) true Try.f7.params.toList args.toList ds p := hA0
  have hsz : (DataW.weightsEach Try.prog (Try.f7.params.toList ++ Rows.logNobodySpec.plain.varTypes Try.prog) (ds ++ gs)).all (· ≤ reachBytes) = true := hsz0
  rw [Try.params7] at hA hsz
  obtain ⟨v0, d0, rfl, rfl, h0⟩ := trodAll_one hA
  obtain ⟨rfl, rfl⟩ := trodVars_none hV
  clear hA0 hsz0
  simp only [List.append_nil] at hW' hsz
  have h0k := h0
  have hlt : ∀ x ∈ p, x.block < W.heap.size := fun x hx => by simpa using hW'.lt x hx
  have hargs : ∀ (W' : World), Below W.heap.size W W' → DataW.Trod enc Try.prog W' 0 (fun b => decide (b < W.heap.size)) true 28 v0 d0 p :=
    fun W' hn => Below.trod Try.laidOut (by kernel_rfl) (of_decide_eq_true (by kernel_rfl)) h0k hn hlt
  obtain ⟨fuel, hf⟩ := h0
  obtain ⟨cs, rfl, _⟩ := okWide_struct Try.underlying28 (hval0 0 28 v0 rfl rfl)
  obtain ⟨c, hc, _, _, _⟩ := open_cmd hf
  have hc' : Value.agg cs = c.val := by
    have : cs.toList = c.v.cells.toList := hc
    show Value.agg cs = Value.agg c.v.cells
    rw [Array.toList_inj.1 this]
  refine Calls.mono (P := Try.prog) (f := 7) (R := fun e W' => e = .returned (.bool true) ∧ Chg No W W') (by rw [hc']; exact nobody_any c W) (fun e W' ⟨he, hch⟩ => ?_)
  subst he
  exact ⟨_, rfl, ⟨_, _, _, [], _, [], hW', trodAll_mk1 (shut_bool Try.underlying4 true), trodAll_mk1 (hargs _ hch.toBelow), rfl, hch.toBelow.frame _, fun h => by cases h⟩⟩

theorem logNobody_holds : Rows.LogNobodySaid :=
  OpenClaim.holds_of_wide 7 Try.f7 rfl rfl rfl rfl rfl rfl rfl ⟨rfl, rfl, rfl, rfl, rfl⟩ rfl rfl rfl rfl rfl (by kernel_rfl) Try.func7 (by kernel_rfl)
    (of_decide_eq_true (by kernel_rfl)) (by unfold Func.isWrapper; rw [if_neg (by decide +kernel)]; exact ⟨rfl, rfl⟩)
    (fun os started H enc _ => logNobody_lifted os started H enc)
#print axioms logNobody_holds
end Go.Proofs.Ytfpmgcpdjlkomaa
