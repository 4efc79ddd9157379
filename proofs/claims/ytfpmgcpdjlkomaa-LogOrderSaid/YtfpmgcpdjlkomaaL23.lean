/- The reference's Key, by a contract; a set of keys that has been met. -/
import Derived.Test.YtfpmgcpdjlkomaaL22
namespace Go.Proofs.Ytfpmgcpdjlkomaa
open Go.RowKit Go.Px Go.Proofs Go.Shelf
set_option maxHeartbeats 400000
set_option maxRecDepth 100000

theorem refkey_any (c : Cmd) (w : World) : Calls Try.prog 13 #[c.val] w fun e w' => e = .returned c.key.val ∧ Chg No w w' := by
  obtain ⟨⟨t, p, s, k, ua, un, uc, x, y, ww, hh, id, cl, sz⟩, us⟩ := c
  unfold Cmd.val CmdV.val CmdV.cells Cmd.key Key.val
  go_enter Try.func13, Try.ntmps13
  go_wp2_with fail
  have hb := Blk.newAt (w := w.alloc (.cells #[.int .i64 t, .int .i64 p, .int .i64 s, .int .i64 k, .slice ua un uc, .int .i64 x, .int .i64 y, .int .i64 ww, .int .i64 hh, .int .i64 id, .int .i64 cl, .int .i64 sz] 28)) (b := w.heap.size + 1) #[.int .i64 t, .int .i64 p, .int .i64 s] 40 (by simp)
  have hl := load_blk hb Try.underlying40 (by kernel_rfl)
  have h0 := hb.c 0 rfl
  have h1 := hb.c 1 rfl
  have h2 := hb.c 2 rfl
  refine bodyPost_ret (v := .agg #[.int .i64 t, .int .i64 p, .int .i64 s]) (by simp [results, Try.results13, go_sem]) rfl ⟨rfl, ((Chg.refl No w).alloc _).alloc _⟩
end Go.Proofs.Ytfpmgcpdjlkomaa
