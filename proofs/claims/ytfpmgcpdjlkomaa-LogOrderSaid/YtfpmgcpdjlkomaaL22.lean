/- The law's 'same': lists of alike commands are told to be alike, by a contract. -/
import Derived.Test.YtfpmgcpdjlkomaaL11
namespace Go.Proofs.Ytfpmgcpdjlkomaa
open Go.RowKit Go.Px Go.Proofs Go.Shelf
set_option maxHeartbeats 400000
set_option maxRecDepth 100000

theorem row_at {cs : List Cmd} {k : Nat} {c : Cmd} (h : cs[k]? = some c) : ∀ j v, c.row[j]? = some v → (cs.flatMap Cmd.row)[k * 12 + j]? = some v := by
  induction cs generalizing k with
  | nil => simp at h
  | cons a cs ih =>
    intro j v hv
    have hj : j < 12 := by have := (List.getElem?_eq_some_iff.1 hv).1; simpa [Cmd.row, CmdV.cells] using this
    have hl : (Cmd.row a).length = 12 := by simp [Cmd.row, CmdV.cells]
    rw [List.flatMap_cons]
    cases k with
    | zero =>
      simp at h
      subst h
      rw [List.getElem?_append_left (by omega)]
      simpa using hv
    | succ k =>
      rw [List.getElem?_append_right (by omega), hl, show (k + 1) * 12 + j - 12 = k * 12 + j by omega]
      exact ih (by simpa using h) j v hv

set_option maxHeartbeats 2000000 in
theorem samelist_any {w : World} {B B' : Nat} {v v' : Value} {cs cs' : List Cmd} (h : CmdsIs w B v cs) (h' : CmdsIs w B' v' cs') (he : cs.map Cmd.abs = cs'.map Cmd.abs) (hm : ∀ c ∈ cs, c.us.length ≤ 9223372036854775807) (hlim : cs.length * 112 ≤ 140737488355328) :
    Calls Try.prog 14 #[v, v'] w fun e w' => e = .returned (.bool true) ∧ Chg No w w' := by
  obtain ⟨a, cap, rfl, _⟩ := Sl.ofOwns h.row
  obtain ⟨a', cap', rfl, _⟩ := Sl.ofOwns h'.row
  have hlen : cs'.length = cs.length := by have := congrArg List.length he; simpa using this.symm
  obtain ⟨n, hn⟩ : ∃ n, cs.length = n := ⟨_, rfl⟩
  have h1 := h.row
  have h1' := h'.row
  rw [hlen, hn] at h1'
  rw [hn] at h1 hlim
  have H1 := hid h1
  have H1' := hid h1'
  have HH := hid h
  have HH' := hid h'
  rw [hlen, hn]
  clear h h' h1 h1'
  have HN := hid (And.intro hn hlen)
  have HE := hid he
  have HMM := hid hm
  clear hn hlen he hm
  go_enter Try.func14, Try.ntmps14
  go_wp2_with fail
  go_loopw [5] (fun i wr => ∃ (k : Nat), i = .int .i64 k ∧ k ≤ n ∧ Chg No w wr) (fun i _ => n - (intOf i).toNat)
  case atStart => exact ⟨0, rfl, by omega, Chg.refl _ _⟩
  case round =>
    obtain ⟨k, rfl, hk, hch⟩ := hrel
    by_cases hlt : k < n
    · obtain ⟨c, hc⟩ : ∃ c, cs[k]? = some c := ⟨_, List.getElem?_eq_getElem (by rw [HN.out.1]; exact hlt)⟩
      obtain ⟨c', hc'⟩ : ∃ c', cs'[k]? = some c' := ⟨_, List.getElem?_eq_getElem (by rw [HN.out.2, HN.out.1]; exact hlt)⟩
      have habs : c.abs = c'.abs := by
        have := congrArg (fun l => l[k]?) HE.out
        simpa [hc, hc'] using this
      have hg : ∃ g, a = some ⟨g, 0, none⟩ := by
        rcases H1.out.2 with ⟨e, h0⟩ | ⟨g, _, _, e, _⟩
        · simp only [Value.slice.injEq] at e; omega
        · simp only [Value.slice.injEq] at e; exact ⟨g, e.1⟩
      have hg' : ∃ g, a' = some ⟨g, 0, none⟩ := by
        rcases H1'.out.2 with ⟨e, h0⟩ | ⟨g, _, _, e, _⟩
        · simp only [Value.slice.injEq] at e; omega
        · simp only [Value.slice.injEq] at e; exact ⟨g, e.1⟩
      obtain ⟨g, rfl⟩ := hg
      obtain ⟨g', rfl⟩ := hg'
      have hmem := List.mem_of_getElem? hc
      have hmem' := List.mem_of_getElem? hc'
      have hsame := same_true c c' (wr.drew) habs (Sl.ofOwns (ownsRow_chg (HH.out.own c hmem) (hch.trans (Chg.refl No wr).drew) (fun _ _ e => e))) (Sl.ofOwns (ownsRow_chg (HH'.out.own c' hmem') (hch.trans (Chg.refl No wr).drew) (fun _ _ e => e))) (HMM.out c hmem)
      have HS := hid hsame
      have hlk : (k : Int) < (n : Int) := by omega
      clear hsame habs
      go_wp2_with fail
      have r1 := fun W (hS : Chg No wr W) => load_row (ownsRow_chg H1.out (hch.trans hS) (fun _ _ e => e)) (k * 12) c.row (fun j v hv => row_at hc j v hv) Try.underlying28 (by kernel_rfl)
      have r2 := fun W (hS : Chg No wr W) => load_row (ownsRow_chg H1'.out (hch.trans hS) (fun _ _ e => e)) (k * 12) c'.row (fun j v hv => row_at hc' j v hv) Try.underlying28 (by kernel_rfl)
      have R1 := hid r1
      have R2 := hid r2
      clear r1 r2
      refine wp_plan (fun W => Chg No wr W) [(true, 0), (true, 1), (true, 2), (true, 3), (true, 4), (false, 5), (false, 6), (false, 7), (false, 8), (false, 9)] (by kernel_rfl) (by kernel_rfl) (by kernel_rfl) (fun d _ _ _ _ h => by cases d <;> exact h) (Chg.refl _ _).drew ?_
      refine free_move (v := .slice (some ⟨g, 0, none⟩) n cap) rfl rfl ?_
      go_frame
      refine free_move (v := .int .i64 k) rfl rfl ?_
      go_frame
      refine plan_free (v := .pointer (some ⟨g, k * 12, none⟩)) rfl rfl (fun W _ => by go_simp) ?_
      go_frame
      refine free_load (v := .pointer (some ⟨g, k * 12, none⟩)) (u := c.val) rfl rfl (fun W hS => R1.out W hS) ?_
      go_frame
      refine free_move (v := .slice (some ⟨g', 0, none⟩) n cap') rfl rfl ?_
      go_frame
      refine plan_step rfl rfl (fun K hK => ?_)
      go_wp2_with fail
      refine hK _ _ (Chg.refl No wr).drew ?_
      clear hK
      refine plan_step rfl rfl (fun K hK => ?_)
      go_wp2_with fail
      refine hK _ _ (Chg.refl No wr).drew ?_
      clear hK
      refine plan_value (v := c'.val) rfl rfl (exec_load (v := .pointer (some ⟨g', k * 12, none⟩)) rfl (R2.out _ (Chg.refl No wr).drew)) (Chg.refl No wr).drew ?_
      go_frame
      refine plan_step rfl rfl (fun K hK => ?_)
      go_wp2_with fail
      refine HS.out.mono ?_
      rintro e w2 ⟨rfl, hch2⟩
      have hx : Chg No wr w2 := (Chg.refl No wr).drew.trans hch2
      refine hK _ _ hx ?_
      clear hK
      refine plan_step rfl rfl (fun K hK => ?_)
      go_wp2_with fail
      refine hK _ _ hx ?_
      clear hK
      refine plan_done ?_
      go_wp2_with fail
      exact ⟨⟨k + 1, by go_num, by omega, hch.trans hx⟩, by simp [intOf]; omega⟩
    · go_wp2_with fail
      go_ret
      exact ⟨rfl, hch⟩
end Go.Proofs.Ytfpmgcpdjlkomaa
