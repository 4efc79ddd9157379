/- 'LogOrder': the list of commands that comes in, read; the law. -/
import Derived.Test.YtfpmgcpdjlkomaaL27
import Derived.Deep.Slices
namespace Go.Proofs.Ytfpmgcpdjlkomaa
open Go.RowKit Go.Px Go.Proofs Go.Shelf Go.ChangeShapes Go.WideShapes Go.ChangeAt Go.Deep
set_option maxHeartbeats 400000
set_option maxRecDepth 100000

instance : Inhabited Cmd := ⟨⟨⟨0, 0, 0, 0, none, 0, 0, 0, 0, 0, 0, 0, 0, 0⟩, []⟩⟩

theorem weightsAll_of {H : Type} {P : Program} {e : TypeId} {d : DataW H} : ∀ {ds : List (DataW H)}, d ∈ ds → ∀ n ∈ d.weights P e, n ∈ DataW.weightsAll P e ds
  | a :: ds, h, n, hn => by
    simp only [DataW.weightsAll, List.mem_append]
    rcases List.mem_cons.1 h with rfl | h
    · exact .inl hn
    · exact .inr (weightsAll_of h n hn)

section
variable {H : Type} {enc : TypeId × Value → H} {W : World}

theorem open_cmds {fuel : Nat} {cs : List Value} {x : DataW H × List MemPlace} (h : DataW.trod enc Try.prog W 0 (fun _ => true) true fuel 33 cs = some x) (hw : ∀ n ∈ x.1.weights Try.prog 33, n ≤ reachBytes) :
    ∃ v ds, cs = [v] ∧ ArgCmds W v ds := by
  rcases open_slice Try.u33 h with ⟨rfl, rfl⟩ | ⟨a, len, cap, m, n, D, Pl, rfl, hb, hl, hm, hmm, rfl, hx⟩
  · exact ⟨_, [], rfl, ⟨⟨none, 0, rfl, fun h => absurd rfl h⟩, by simp, by simp, by simp⟩⟩
  · simp only [if_true] at hmm
    subst hmm
    have each : ∀ i, i < len → ∃ c : Cmd, (∀ j u, c.row[j]? = some u → W.cell? (a.add (i * 12 + j)) = some u) ∧ c.ok W ∧ c.key.wf ∧ c.us.length * 8 ≤ 140737488355328 := by
      intro i hi
      obtain ⟨cs', h1, h2⟩ := hx i (by omega)
      rw [Try.cells28] at h1
      obtain ⟨_, hlen, hcell⟩ := World.cells?_some h1
      obtain ⟨c, hc, hok, hk, hlim⟩ := open_cmd h2
      refine ⟨c, fun j u hu => ?_, hok, hk, ?_⟩
      · have hj : j < 12 := by
          have := (List.getElem?_eq_some_iff.1 hu).1
          rw [← hlen, hc]; exact this
        have := hcell j hj
        rw [add_add] at this
        rw [this, hc]
        exact hu
      · have := hlim (fun n hn => hw n (by
          simp only [DataW.weights, Try.u33, List.mem_cons, List.mem_append]
          exact .inr (.inl (weightsAll_of (List.mem_map.2 ⟨i, by simpa using hi, rfl⟩) n hn))))
        simp only [reachBytes] at this
        omega
    obtain ⟨C, hC⟩ := choose_lt each
    refine ⟨_, (List.range len).map C, rfl, ⟨⟨some a, m, by simp, fun hne => ?_⟩, ?_, ?_, ?_⟩⟩
    · have h0 : 0 < len := by
        rcases Nat.eq_zero_or_pos len with e | e
        · exfalso; apply hne; rw [e]; rfl
        · exact e
      obtain ⟨b, off, sp⟩ := a
      have hs : sp = none := by
        have h1 := (hC 0 h0).1 0 _ rfl
        cases sp with
        | none => rfl
        | some s =>
          exfalso
          unfold World.cell? Addr.add at h1
          simp at h1
          split at h1 <;> simp_all
      subst hs
      refine ⟨b, off, rfl, fun k c hk j u hu => ?_⟩
      rw [List.getElem?_map] at hk
      obtain ⟨k', hk', rfl⟩ := Option.map_eq_some_iff.1 hk
      obtain ⟨hlt, e⟩ := List.getElem?_eq_some_iff.1 hk'
      simp only [List.getElem_range] at e
      subst e
      have h2 := (hC k (by simpa using hlt)).1 j u hu
      have e2 : (⟨b, off + k * 12 + j, none⟩ : Addr) = (⟨b, off, none⟩ : Addr).add (k * 12 + j) := by
        unfold Addr.add
        split
        · congr 1; omega
        · simp [Nat.add_assoc]
      rw [e2]
      exact h2
    · intro c hc
      obtain ⟨i, hi, rfl⟩ := List.mem_map.1 hc
      exact (hC i (by simpa using hi)).2.1
    · intro c hc
      obtain ⟨i, hi, rfl⟩ := List.mem_map.1 hc
      exact (hC i (by simpa using hi)).2.2.1
    · intro c hc
      obtain ⟨i, hi, rfl⟩ := List.mem_map.1 hc
      exact (hC i (by simpa using hi)).2.2.2
end

theorem logOrder_lifted (os : Os) (started : os.Started) (H : Type) (enc : TypeId × Value → H) :
    ReturnsInHanded {} Try.checked os 4 .any (Rows.logOrderSpec.pre6 enc Try.prog Try.f4 Rows.logOrderRow.domain false) (Rows.logOrderSpec.post enc Try.prog Try.f4 false true false false) := by
  refine returnsInHanded_of_change_sized (C := Try.checked) Try.own started (by kernel_rfl) Try.func4
    (ChangeSpec.witness6 (enc := enc) (C := Try.checked) false ⟨#[], #[.slice none 0 0], []⟩ 8 (by kernel_rfl) (by kernel_rfl) (by kernel_rfl) (by kernel_rfl)) ?_
  intro W base args ds gs before hval0 hW hcnd hsz0 _
  have hW' := hW
  obtain ⟨p, q, hA0, hV, rfl, hfz, hnd⟩ := hW
  have hA : DataW.TrodAll enc Try.prog W 0 (fun _ => true) true Try.f4.params.toList args.toList ds p := hA0
  have hsz : (DataW.weightsEach Try.prog (Try.f4.params.toList ++ Rows.logOrderSpec.plain.varTypes Try.prog) (ds ++ gs)).all (· ≤ reachBytes) = true := hsz0
  rw [Try.params4] at hA hsz
  obtain ⟨v0, d0, rfl, rfl, h0⟩ := trodAll_one hA
  obtain ⟨rfl, rfl⟩ := trodVars_none hV
  clear hA0 hsz0
  simp only [List.append_nil] at hW' hsz
  have h0k := h0
  have hlt : ∀ x ∈ p, x.block < W.heap.size := fun x hx => by simpa using hW'.lt x hx
  have hargs : ∀ (W' : World), Below W.heap.size W W' → DataW.Trod enc Try.prog W' 0 (fun b => decide (b < W.heap.size)) true 33 v0 d0 p :=
    fun W' hn => Below.trod Try.laidOut (by kernel_rfl) (of_decide_eq_true (by kernel_rfl)) h0k hn hlt
  obtain ⟨fuel, hf⟩ := h0
  have hw : ∀ n ∈ d0.weights Try.prog 33, n ≤ reachBytes := fun n hn => by
    have := List.all_eq_true.1 hsz n (DataW.weights_mem_each (j := 0) (t := 33) (d := d0) rfl rfl n hn)
    simpa using this
  obtain ⟨a0, len0, cap0, rfl⟩ := okWide_slice Try.u33 (hval0 0 33 v0 rfl rfl)
  obtain ⟨v, cs, hv, hac⟩ := open_cmds hf hw
  have hv : Value.slice a0 len0 cap0 = v := by injection (show [Value.slice a0 len0 cap0] = [v] from hv)
  subst hv
  refine Calls.mono (P := Try.prog) (f := 4) (R := fun e W' => e = .returned (.bool true) ∧ Chg No W W') (order_any _ cs W hac) (fun e W' ⟨he, hch⟩ => ?_)
  subst he
  exact ⟨_, rfl, ⟨_, _, _, [], _, [], hW', trodAll_mk1 (shut_bool Try.underlying4 true), trodAll_mk1 (hargs _ hch.toBelow), rfl, hch.toBelow.frame _, fun h => by cases h⟩⟩

theorem logOrder_holds : Rows.LogOrderSaid :=
  OpenClaim.holds_of_wide 4 Try.f4 rfl rfl rfl rfl rfl rfl rfl ⟨rfl, rfl, rfl, rfl, rfl⟩ rfl rfl rfl rfl rfl (by kernel_rfl) Try.func4 (by kernel_rfl)
    (of_decide_eq_true (by kernel_rfl)) (by unfold Func.isWrapper; rw [if_neg (by decide +kernel)]; exact ⟨rfl, rfl⟩)
    (fun os started H enc _ => logOrder_lifted os started H enc)
#print axioms logOrder_holds
end Go.Proofs.Ytfpmgcpdjlkomaa
