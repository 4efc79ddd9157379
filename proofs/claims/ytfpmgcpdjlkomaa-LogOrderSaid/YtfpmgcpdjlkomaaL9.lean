/- Same: alike commands are told to be alike, by a contract. -/
import Derived.Test.YtfpmgcpdjlkomaaL8
namespace Go.Proofs.Ytfpmgcpdjlkomaa
open Go.RowKit Go.Px Go.Proofs Go.Shelf
open Go.Maps (Keyed)
set_option maxHeartbeats 400000
set_option maxRecDepth 100000

/-- A command whose units read as what is said of it. -/
def Cmd.ok (w : World) (c : Cmd) : Prop := Sl w c.v.units c.us.length c.cells

theorem sl_cell {w : World} {a : Option Addr} {n c : Nat} {cs : List Value} (h : Sl w (.slice a n c) n cs) {i : Nat} {u : Value} (hu : cs[i]? = some u) : ∃ ad, a = some ad ∧ w.cell? (ad.add i) = some u := by
  obtain ⟨a', c', e, _, _, h3, h4⟩ := h
  simp only [Value.slice.injEq] at e
  obtain ⟨e1, _, _⟩ := e
  subst e1
  cases a with
  | none => obtain ⟨_, _, e⟩ := h3 rfl; rw [e] at hu; simp at hu
  | some ad => exact ⟨ad, rfl, h4 ad rfl i u hu⟩

set_option maxHeartbeats 2000000 in
theorem same_true (a b : Cmd) (w : World) (h : a.abs = b.abs) (ha : a.ok w) (hb : b.ok w) (hm : a.us.length ≤ 9223372036854775807) :
    Calls Try.prog 11 #[a.val, b.val] w fun e w' => e = .returned (.bool true) ∧ Chg No w w' := by
  obtain ⟨⟨t, p, s, k, ua, un, uc, x, y, ww, hh, id, cl, sz⟩, us⟩ := a
  obtain ⟨⟨t', p', s', k', ua', un', uc', x', y', ww', hh', id', cl', sz'⟩, us'⟩ := b
  simp only [Cmd.abs, CmdA.mk.injEq] at h
  obtain ⟨rfl, rfl, rfl, rfl, rfl, rfl, rfl, rfl, rfl, rfl, rfl, rfl⟩ := h
  obtain ⟨n, hn⟩ : ∃ n, us.length = n := ⟨_, rfl⟩
  have e1 : un = n := by obtain ⟨_, _, e, _⟩ := ha; simp only [CmdV.units, Value.slice.injEq] at e; rw [← hn]; exact e.2.1
  have e2 : un' = n := by obtain ⟨_, _, e, _⟩ := hb; simp only [CmdV.units, Value.slice.injEq] at e; rw [← hn]; exact e.2.1
  subst e1 
  subst e2
  unfold Cmd.val CmdV.val CmdV.cells
  have sla : Sl w (.slice ua un' uc) un' (us.map (Value.int .i64)) := by
    unfold Cmd.ok CmdV.units Cmd.cells at ha
    simp only [hn] at ha
    exact ha
  have slb : Sl w (.slice ua' un' uc') un' (us.map (Value.int .i64)) := by
    unfold Cmd.ok CmdV.units Cmd.cells at hb
    simp only [hn] at hb
    exact hb
  have HA := hid sla
  have HB := hid slb
  have HN := hid hn
  simp only [hn] at hm
  clear ha hb hn sla slb
  go_enter Try.func11, Try.ntmps11
  go_wp2_with fail
  refine wp_world (fun w0 => w0.cell? ⟨w.heap.size, 4, none⟩ = some (.slice ua un' uc) ∧ w0.cell? ⟨w.heap.size + 1, 4, none⟩ = some (.slice ua' un' uc') ∧ Sl w0 (.slice ua un' uc) un' (us.map (Value.int .i64)) ∧ Sl w0 (.slice ua' un' uc') un' (us.map (Value.int .i64)) ∧ Chg No w w0)
    ⟨((Blk.new _ _ _).alloc _).c 4 rfl, (Blk.newAt (b := w.heap.size + 1) _ _ (by simp)).c 4 rfl, HA.out.chg (((Chg.refl No w).alloc _).alloc _) (fun _ _ _ _ e => e), HB.out.chg (((Chg.refl No w).alloc _).alloc _) (fun _ _ _ _ e => e), ((Chg.refl No w).alloc _).alloc _⟩ ?_
  rintro w0 ⟨c1, c2, sa, sb, hch⟩
  have SA := hid sa
  have SB := hid sb
  clear sa sb
  go_loopw [5] (fun i wr => ∃ (k : Nat) (n : Nat), k ≤ un' ∧ i = .int .i64 k ∧ wr = w0.drewN n) (fun i _ => un' - (intOf i).toNat)
  case atStart => exact ⟨0, 0, Nat.zero_le _, rfl, rfl⟩
  case round =>
    obtain ⟨j, nd, hj, rfl, rfl⟩ := hrel
    by_cases hlt : j < un'
    · obtain ⟨z, hz⟩ : ∃ z, us[j]? = some z := ⟨_, List.getElem?_eq_getElem (by rw [HN.out]; exact hlt)⟩
      obtain ⟨ad, rfl, ca⟩ := sl_cell SA.out (i := j) (u := .int .i64 z) (by rw [List.getElem?_map, hz]; rfl)
      obtain ⟨ad', rfl, cb⟩ := sl_cell SB.out (i := j) (u := .int .i64 z) (by rw [List.getElem?_map, hz]; rfl)
      have hlt' : (j : Int) < (un' : Int) := by omega
      go_wp2_with fail
      go_quiet (fail)
      go_wp2_with fail
      exact ⟨⟨j + 1, nd + nq, by omega, by go_num, rfl⟩, by simp [intOf]; omega⟩
    · go_wp2_with fail
      go_ret
      exact ⟨rfl, hch.drewN _⟩
end Go.Proofs.Ytfpmgcpdjlkomaa
