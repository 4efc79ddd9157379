/- 'LogNobody' answers true, for every command within the reach. -/
import Derived.Test.YtfpmgcpdjlkomaaL16
import Derived.Test.YtfpmgcpdjlkomaaL12
namespace Go.Proofs.Ytfpmgcpdjlkomaa
open Go.RowKit Go.Px Go.Proofs Go.Shelf Go.ChangeShapes Go.WideShapes Go.ChangeAt
set_option maxHeartbeats 400000
set_option maxRecDepth 100000

set_option maxHeartbeats 4000000 in
theorem nobody_any (c : Cmd) (w : World) : Calls Try.prog 7 #[c.val] w fun e w' => e = .returned (.bool true) ∧ Chg No w w' := by
  obtain ⟨⟨t, p, s, k, ua, un, uc, x, y, ww, hh, id, cl, sz⟩, us⟩ := c
  unfold Cmd.val CmdV.val CmdV.cells
  go_enter Try.func7, Try.ntmps7
  go_wp2_with fail
  refine (awake_any _).mono ?_
  rintro e w1 ⟨rfl, hch1⟩
  obtain ⟨b, hb⟩ : ∃ b, w.heap.size = b := ⟨_, rfl⟩
  have hb1 : Blk w1 b #[.int .i64 t, .int .i64 p, .int .i64 s, .int .i64 k, .slice ua un uc, .int .i64 x, .int .i64 y, .int .i64 ww, .int .i64 hh, .int .i64 id, .int .i64 cl, .int .i64 sz] 28 := (Blk.newAt _ _ hb).chgNo hch1
  have hw1 : Chg No w w1 := ((Chg.refl No w).alloc _).trans hch1
  rw [hb]
  clear hb hch1
  go_wp2_with fail
  go_loopw [3] (fun i wr => ∃ k' : Nat, i = .int .i64 k' ∧ k' ≤ 2 ∧ Blk wr b #[.int .i64 t, .int .i64 p, .int .i64 s, .int .i64 k, .slice ua un uc, .int .i64 x, .int .i64 y, .int .i64 ww, .int .i64 hh, .int .i64 id, .int .i64 cl, .int .i64 sz] 28 ∧ Chg No w wr) (fun i _ => 2 - (intOf i).toNat)
  case atStart => exact ⟨0, rfl, by omega, hb1, hw1⟩
  case round =>
    obtain ⟨k', rfl, hk, hblk, hch⟩ := hrel
    have hcell := hblk.cell
    by_cases h2 : k' = 2
    · subst h2
      go_wp2_with fail
      refine (awake_any _).mono ?_
      rintro e w2 ⟨rfl, hch2⟩
      go_wp2_with fail
      go_ret
      exact ⟨rfl, hch.trans hch2⟩
    · rcases (show k' = 0 ∨ k' = 1 by omega) with rfl | rfl
      · have hblk2 := hblk
        go_wp2_with fail
        have hd : Dead wr none := .inl rfl
        refine (add_dead hd ⟨⟨t, p, s, k, ua, un, uc, x, y, ww, hh, id, cl, sz⟩, us⟩).mono ?_
        rintro e w2 ⟨rfl, hch2⟩
        have HD2 := hid ((hd).chgNo hch2)
        have hb2 := (hblk2).chgNo hch2
        have HW2 := hid (hch.trans hch2)
        have HB2 := hid hb2
        have hcell2 := hb2.cell
        clear hb2 hblk2 hch2 hcell
        go_wp2_with fail
        refine (at_dead HD2.out t).mono ?_
        rintro e w3 ⟨rfl, hch3⟩
        have HD3 := hid (HD2.out.chgNo hch3)
        have HB3 := hid (HB2.out.chgNo hch3)
        have HW3 := hid (HW2.out.trans hch3)
        clear HD2 HB2 HW2 hch3 hcell2
        go_wp2_with fail
        refine (from_dead HD3.out 0).mono ?_
        rintro e w4 ⟨⟨fa, fc, rfl⟩, hch4⟩
        have HD4 := hid (HD3.out.chgNo hch4)
        have HB4 := hid (HB3.out.chgNo hch4)
        have HW4 := hid (HW3.out.trans hch4)
        clear HD3 HB3 HW3 hch4
        go_wp2_with fail
        refine (first_dead HD4.out).mono ?_
        rintro e w5 ⟨rfl, rfl⟩
        go_wp2_with fail
        refine (drop_dead HD4.out 9).mono ?_
        rintro e w5 ⟨rfl, hch5⟩
        have HD5 := hid (HD4.out.chgNo hch5)
        have HB5 := hid (HB4.out.chgNo hch5)
        have HW5 := hid (HW4.out.trans hch5)
        clear HD4 HB4 HW4 hch5
        go_wp2_with fail
        refine (len_dead HD5.out).mono ?_
        rintro e w6 ⟨rfl, rfl⟩
        go_wp2_with fail
        exact ⟨⟨1, by go_num, by omega, HB5.out, HW5.out⟩, by simp [intOf]⟩
      · have hblk2 : ∀ o, Blk (wr.alloc o) b #[.int .i64 t, .int .i64 p, .int .i64 s, .int .i64 k, .slice ua un uc, .int .i64 x, .int .i64 y, .int .i64 ww, .int .i64 hh, .int .i64 id, .int .i64 cl, .int .i64 sz] 28 := fun o => hblk.alloc o
        have hcell3 := fun o => (hblk2 o).cell
        go_wp2_with fail
        have hd : Dead (wr.alloc (.cells #[.int .i64 0, .map none] 61)) (some ⟨wr.heap.size, 0, none⟩) := .inr ⟨_, rfl, Blk.new _ _ _⟩
        have hblkx := hblk2 (.cells #[.int .i64 0, .map none] 61)
        have hchx := hch.alloc (.cells #[.int .i64 0, .map none] 61)
        refine (add_dead hd ⟨⟨t, p, s, k, ua, un, uc, x, y, ww, hh, id, cl, sz⟩, us⟩).mono ?_
        rintro e w2 ⟨rfl, hch2⟩
        have HD2 := hid ((hd).chgNo hch2)
        have hb2 := hblkx.chgNo hch2
        have HW2 := hid (hchx.trans hch2)
        have HB2 := hid hb2
        have hcell2 := hb2.cell
        clear hb2 hblk2 hblkx hch2 hcell hcell3
        go_wp2_with fail
        refine (at_dead HD2.out t).mono ?_
        rintro e w3 ⟨rfl, hch3⟩
        have HD3 := hid (HD2.out.chgNo hch3)
        have HB3 := hid (HB2.out.chgNo hch3)
        have HW3 := hid (HW2.out.trans hch3)
        clear HD2 HB2 HW2 hch3 hcell2
        go_wp2_with fail
        refine (from_dead HD3.out 0).mono ?_
        rintro e w4 ⟨⟨fa, fc, rfl⟩, hch4⟩
        have HD4 := hid (HD3.out.chgNo hch4)
        have HB4 := hid (HB3.out.chgNo hch4)
        have HW4 := hid (HW3.out.trans hch4)
        clear HD3 HB3 HW3 hch4
        go_wp2_with fail
        refine (first_dead HD4.out).mono ?_
        rintro e w5 ⟨rfl, rfl⟩
        go_wp2_with fail
        refine (drop_dead HD4.out 9).mono ?_
        rintro e w5 ⟨rfl, hch5⟩
        have HD5 := hid (HD4.out.chgNo hch5)
        have HB5 := hid (HB4.out.chgNo hch5)
        have HW5 := hid (HW4.out.trans hch5)
        clear HD4 HB4 HW4 hch5
        go_wp2_with fail
        refine (len_dead HD5.out).mono ?_
        rintro e w6 ⟨rfl, rfl⟩
        go_wp2_with fail
        exact ⟨⟨2, by go_num, by omega, HB5.out, HW5.out⟩, by simp [intOf]⟩
end Go.Proofs.Ytfpmgcpdjlkomaa
