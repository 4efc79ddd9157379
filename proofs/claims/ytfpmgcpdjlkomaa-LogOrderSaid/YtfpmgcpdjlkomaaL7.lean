/- Add to a full log, by a contract. -/
import Derived.Test.YtfpmgcpdjlkomaaL6
namespace Go.Proofs.Ytfpmgcpdjlkomaa
open Go.RowKit Go.Px Go.Proofs Go.Shelf
open Go.Maps (Keyed)
set_option maxHeartbeats 400000
set_option maxRecDepth 100000

set_option maxHeartbeats 4000000 in
theorem add_full {w : World} {p m B : Nat} {first : Int} {L : List (Key × Cmd)} (h : LogIs w p m B first L) (c : Cmd) (hlt : first ≤ c.v.tick) (hk : c.key.wf) (hs : hask L c.key = false) (hf : 4096 ≤ (L.length : Int)) :
    Calls Try.prog 9 #[.pointer (some ⟨p, 0, none⟩), c.val] w fun e w' => e = .returned (.int .i64 2) ∧ Chg No w w' := by
  have hb := h.blk
  have hm := h.map
  have hg : get L c.key = none := by rw [hask_get] at hs; simpa using hs
  have HLOG := hid h
  have HC := hid (show c.key = c.key from rfl)
  obtain ⟨⟨t, pl, s, k, ua, un, uc, x, y, ww, hh, id, cl, sz⟩, us⟩ := c
  simp only [Cmd.key] at hlt hk hg
  unfold Cmd.val CmdV.val CmdV.cells
  have HG := hid hg
  have HS := hid hs
  clear h hg hs
  go_enter Try.func9, Try.ntmps9
  go_wp2_with (go_at_call 23; refine (is_blk (hb.alloc _)).mono ?_; rintro e w' ⟨rfl, rfl⟩)
  refine wp_world (fun w0 => Blk w0 w.heap.size #[.int .i64 t, .int .i64 pl, .int .i64 s, .int .i64 k, .slice ua un uc, .int .i64 x, .int .i64 y, .int .i64 ww, .int .i64 hh, .int .i64 id, .int .i64 cl, .int .i64 sz] 28 ∧ Blk w0 (w.heap.size + 1) #[.int .i64 t, .int .i64 pl, .int .i64 s] 40 ∧ Blk w0 p #[.int .i64 first, .map (some m)] 61 ∧ IsMap Try.prog 40 Key.val Cmd.val w0 m L ∧ Chg No w w0)
    ⟨(Blk.new _ _ _).alloc _, Blk.newAt _ _ (by simp), (hb.alloc _).alloc _, (hm.chg ((Chg.refl No _).alloc _) (fun e => e)).chg ((Chg.refl No _).alloc _) (fun e => e), ((Chg.refl _ _).alloc _).alloc _⟩ ?_
  rintro w0 ⟨bc, bk, bp, hm0, hch⟩
  have c1 := bc.c 0 rfl
  have c2 := bp.c 0 rfl
  go_quiet (fail)
  go_wp2_with fail
  refine wp_world (fun w1 => Blk w1 w.heap.size #[.int .i64 t, .int .i64 pl, .int .i64 s, .int .i64 k, .slice ua un uc, .int .i64 x, .int .i64 y, .int .i64 ww, .int .i64 hh, .int .i64 id, .int .i64 cl, .int .i64 sz] 28 ∧ Blk w1 (w.heap.size + 1) #[.int .i64 t, .int .i64 pl, .int .i64 s] 40 ∧ Blk w1 p #[.int .i64 first, .map (some m)] 61 ∧ IsMap Try.prog 40 Key.val Cmd.val w1 m L ∧ Chg No w w1) ⟨bc, bk, bp, hm0, hch.drewN _⟩ ?_
  clear c1 c2 bc bk bp hm0 hch hlt
  rintro w1 ⟨bc, bk, bp, hm1, hch⟩
  have c3 := fun o => (bp.alloc o).c 1 rfl
  have c4 := bp.c 1 rfl
  have ck := bk.cell
  have ck2 := fun o => (bk.alloc o).cell
  have hz := bk.lt
  have hlk : (Instr.lookup 59 (.map (some m)) (.agg #[.int .i64 t, .int .i64 pl, .int .i64 s]) true).run Try.prog w1.drew = .ok (.tuple #[zcmd, .bool false]) w1.drew :=
    (lookup_none (hm1.chgNo (Chg.refl No w1).drew) ⟨t, pl, s⟩ hk HG.out).1
  have hlk2 : ∀ o, (Instr.lookup 59 (.map (some m)) (.agg #[.int .i64 t, .int .i64 pl, .int .i64 s]) true).run Try.prog (w1.alloc o).drew = .ok (.tuple #[zcmd, .bool false]) (w1.alloc o).drew := fun o =>
    (lookup_none (hm1.chgNo ((Chg.refl No w1).alloc o).drew) ⟨t, pl, s⟩ hk HG.out).1
  have HM := hid hm1
  have HLEN : ∀ o ty, (Builtin.len_ #[59] ty #[.map (some m)]).run Try.prog (w1.alloc o).drew = .ok (.int .i64 L.length) (w1.alloc o).drew := fun o ty => (hm1.chgNo ((Chg.refl No w1).alloc o).drew).len Try.u59
  unfold zcmd at hlk hlk2
  clear hm1 hb hm
  go_region
  go_wp2_with fail
  go_ret
  exact ⟨rfl, (hch.alloc _).drew⟩


end Go.Proofs.Ytfpmgcpdjlkomaa
