/- awake answers true, in whatever world. -/
import Derived.Test.YtfpmgcpdjlkomaaL9
namespace Go.Proofs.Ytfpmgcpdjlkomaa
open Go.RowKit Go.Px Go.Proofs Go.Shelf
open Go.Maps (Keyed)
set_option maxHeartbeats 400000
set_option maxRecDepth 100000

def raze7 : Cmd := ⟨⟨7, 0, 0, 4, none, 0, 0, 0, 0, 0, 0, 1, 0, 0⟩, []⟩
def bare4 : Cmd := ⟨⟨4, 0, 0, 0, none, 0, 0, 0, 0, 0, 0, 0, 0, 0⟩, []⟩

theorem nil_sl (w : World) : Sl w (.slice none 0 0) 0 [] := ⟨none, 0, rfl, Nat.le_refl _, Nat.zero_le _, fun _ => ⟨rfl, rfl, rfl⟩, fun _ e => by cases e⟩

set_option maxHeartbeats 2000000 in
theorem awake_any (w : World) : Calls Try.prog 12 #[] w fun e w' => e = .returned (.bool true) ∧ Chg No w w' := by
  go_enter Try.func12, Try.ntmps12
  go_wp2_with fail
  refine (new_any 5 w).mono ?_
  rintro e w1 ⟨rfl, hlog, hch⟩
  obtain ⟨p, hp⟩ : ∃ p, w.heap.size + 1 = p := ⟨_, rfl⟩
  obtain ⟨m, hm⟩ : ∃ m, w.heap.size = m := ⟨_, rfl⟩
  rw [hp, hm] at hlog
  rw [hp]
  have HLOG := hid hlog
  have HPM := hid (And.intro hp hm)
  clear hlog hp hm
  go_wp2_with fail
  change Calls Try.prog 9 #[.pointer (some ⟨p, 0, none⟩), raze7.val] _ _
  have hw2 := HLOG.out.map.lt
  obtain ⟨bc, hbc⟩ : ∃ bc, w1.heap.size = bc := ⟨_, rfl⟩
  refine calls_world (fun w2 => LogIs w2 p m m 5 [] ∧ Blk w2 bc raze7.v.cells 28 ∧ Chg No w w2 ∧ m < bc ∧ m ≤ w2.heap.size)
    ⟨HLOG.out.chgNo ((Chg.refl No w1).alloc _), Blk.newAt _ _ hbc, hch.alloc _, by omega, by simp; omega⟩ ?_
  rw [hbc]
  clear HLOG hbc hw2
  rintro w2 ⟨hlog, hblk, hch2, hlt, hle⟩
  refine (add_new hlog raze7 (by decide) ⟨by decide, by decide, by decide⟩ rfl (by decide) hle (nil_sl _) (by decide)).mono ?_
  rintro e w3 ⟨rfl, hch3, c', hus, hv, hlog3⟩
  have hblk3 := hblk.chg hch3 (by omega)
  have hbig : m ≤ w3.heap.size := Nat.le_trans hle hch3.size
  have d : ∀ i, w3.cell? ⟨bc, i, none⟩ = raze7.v.cells[i]? := hblk3.cell
  simp only [raze7, CmdV.cells] at d
  have HL := hid hlog3
  have HV := hid hv
  have HB := hid hblk3
  have HC := hid hch3
  clear hlog hblk hlog3 hv hblk3 hch3
  go_wp2_with fail
  change Calls Try.prog 9 #[.pointer (some ⟨p, 0, none⟩), raze7.val] _ _
  refine (add_same HL.out raze7 (by decide) ⟨by decide, by decide, by decide⟩ (by simp [put, hask])).mono ?_
  rintro e w4 ⟨rfl, hch4⟩
  have HL4 := hid (HL.out.chgNo hch4)
  have HC4 := hid ((hch2.trans' (HC.out.mono (T := fun j => j = m) (fun _ _ e => e)) (by rintro j hj rfl; have := HPM.out.2; omega)).trans hch4)
  clear HL hch4 d HB
  go_wp2_with fail
  change Calls Try.prog 9 #[.pointer (some ⟨p, 0, none⟩), bare4.val] _ _
  refine (add_late (HL4.out.chgNo (Chg.refl No w4)) bare4 (by decide)).mono ?_
  rintro e w5 ⟨rfl, hch5⟩
  go_wp2_with fail
  refine (at_any (HL4.out.chgNo hch5) 7 (by simp [put, hask])).mono ?_
  rintro e w6 ⟨v, cs, rfl, hcs, hmap, hlog6, hch6⟩
  have hlen := congrArg List.length hmap
  simp [ksort, put, hask] at hlen
  obtain ⟨a6, c6, rfl, _⟩ := Sl.ofOwns hcs.row
  go_wp2_with fail
  refine (len_any hlog6).mono ?_
  rintro e w7 ⟨rfl, rfl⟩
  have HH := hid hlen
  clear hmap
  go_wp2_with fail
  go_ret
  refine ⟨?_, (HC4.out.trans hch5).trans hch6⟩
  have := HH.out
  simp [this, put, hask]
end Go.Proofs.Ytfpmgcpdjlkomaa
