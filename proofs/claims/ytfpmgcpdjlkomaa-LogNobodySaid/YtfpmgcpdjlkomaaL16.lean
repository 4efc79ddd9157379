/- A log that nobody made (nil, or the zero one): what each call gives. -/
import Derived.Test.YtfpmgcpdjlkomaaL15
namespace Go.Proofs.Ytfpmgcpdjlkomaa
open Go.RowKit Go.Px Go.Proofs Go.Shelf
set_option maxHeartbeats 400000
set_option maxRecDepth 100000

/-- Nobody's log. -/
def Dead (w : World) (pl : Option Addr) : Prop := pl = none ∨ ∃ p, pl = some ⟨p, 0, none⟩ ∧ Blk w p #[.int .i64 0, .map none] 61

theorem Dead.chgNo {w w' : World} {pl : Option Addr} (h : Dead w pl) (hc : Chg No w w') : Dead w' pl := by
  rcases h with h | ⟨p, h, hb⟩
  · exact .inl h
  · exact .inr ⟨p, h, hb.chgNo hc⟩

theorem is_dead {w : World} {pl : Option Addr} (h : Dead w pl) : Calls Try.prog 23 #[.pointer pl] w fun e w' => e = .returned (.bool false) ∧ w = w' := by
  rcases h with rfl | ⟨p, rfl, hb⟩
  · exact is_nil w
  · exact is_zero p w (hb.c 1 rfl)

theorem len_dead {w : World} {pl : Option Addr} (h : Dead w pl) : Calls Try.prog 16 #[.pointer pl] w fun e w' => e = .returned (.int .i64 0) ∧ w = w' := by
  go_enter Try.func16, Try.ntmps16
  go_wp2_with fail
  refine (is_dead h).mono ?_
  rintro e w' ⟨rfl, rfl⟩
  go_wp2_with fail
  go_ret
  exact ⟨rfl, rfl⟩

theorem first_dead {w : World} {pl : Option Addr} (h : Dead w pl) : Calls Try.prog 18 #[.pointer pl] w fun e w' => e = .returned (.int .i64 0) ∧ w = w' := by
  go_enter Try.func18, Try.ntmps18
  go_wp2_with fail
  refine (is_dead h).mono ?_
  rintro e w' ⟨rfl, rfl⟩
  go_wp2_with fail
  go_ret
  exact ⟨rfl, rfl⟩

theorem add_dead {w : World} {pl : Option Addr} (h : Dead w pl) (c : Cmd) : Calls Try.prog 9 #[.pointer pl, c.val] w fun e w' => e = .returned (.int .i64 2) ∧ Chg No w w' := by
  obtain ⟨⟨t, p, s, k, ua, un, uc, x, y, ww, hh, id, cl, sz⟩, us⟩ := c
  unfold Cmd.val CmdV.val CmdV.cells
  go_enter Try.func9, Try.ntmps9
  go_wp2_with fail
  refine (is_dead (h.chgNo ((Chg.refl No w).alloc _))).mono ?_
  rintro e w' ⟨rfl, rfl⟩
  go_wp2_with fail
  go_ret
  exact ⟨rfl, (Chg.refl No w).alloc _⟩

theorem keys_dead {w : World} {pl : Option Addr} (h : Dead w pl) (g : Nat) (cb : Array Value) : Calls Try.prog 25 #[.pointer pl, .func (.func g) #[] cb] w fun e w' => e = .returned (.slice none 0 0) ∧ w = w' := by
  go_enter Try.func25, Try.ntmps25
  go_wp2_with fail
  refine (is_dead h).mono ?_
  rintro e w' ⟨rfl, rfl⟩
  go_wp2_with fail
  go_ret
  exact ⟨rfl, rfl⟩

theorem at_dead {w : World} {pl : Option Addr} (h : Dead w pl) (tick : Int) : Calls Try.prog 10 #[.pointer pl, .int .i64 tick] w fun e w' => e = .returned (.slice none 0 0) ∧ Chg No w w' := by
  go_enter Try.func10, Try.ntmps10
  go_wp2_with fail
  refine (keys_dead (h.chgNo ((Chg.refl No w).alloc _)) _ _).mono ?_
  rintro e w' ⟨rfl, rfl⟩
  go_wp2_with fail
  refine wp_loop_rounds 1 ?_
  rw [rounds_succ]
  go_wp2_with fail
  go_ret
  exact ⟨rfl, (Chg.refl No w).alloc _⟩

theorem from_dead {w : World} {pl : Option Addr} (h : Dead w pl) (tick : Int) : Calls Try.prog 15 #[.pointer pl, .int .i64 tick] w fun e w' => (∃ a c, e = .returned (.slice a 0 c)) ∧ Chg No w w' := by
  refine (from_gen pl tick w [] [] (fun W Bt hc hb => ?_) (fun e => (e rfl).elim) (by simp) (by simp)).mono ?_
  · refine (keys_dead (h.chgNo hc) _ _).mono ?_
    rintro e w' ⟨rfl, rfl⟩
    exact ⟨_, rfl, World.ownsRow_nil _ _ _ _, Chg.refl _ _⟩
  · rintro e w' ⟨v, cs, rfl, hcs, hm, hch⟩
    have : cs = [] := by simpa using hm
    subst this
    obtain ⟨a, c, e, _⟩ := Sl.ofOwns hcs.row
    exact ⟨⟨a, c, by rw [e]; rfl⟩, hch⟩

theorem drop_dead {w : World} {pl : Option Addr} (h : Dead w pl) (before : Int) : Calls Try.prog 17 #[.pointer pl, .int .i64 before] w fun e w' => e = .returned (.int .i64 0) ∧ Chg No w w' := by
  go_enter Try.func17, Try.ntmps17
  go_wp2_with fail
  have hd := (h.chgNo (((Chg.refl No w).alloc (.cells #[.int .i64 before] 3)).drew))
  have HD := hid hd
  clear hd
  refine wp_plan (fun W => Chg No w W) [(false, 0), (false, 1), (false, 2), (false, 3), (true, 4), (false, 5), (false, 6), (false, 7), (false, 8), (false, 9), (false, 10)] (by kernel_rfl) (by kernel_rfl) (by kernel_rfl) (fun d _ _ _ _ h => by cases d <;> exact h) ((Chg.refl No w).alloc _).drew ?_
  have hS : Chg No w ((w.alloc (.cells #[.int .i64 before] 3)).drew) := ((Chg.refl No w).alloc _).drew
  refine plan_step rfl rfl (fun K hK => ?_)
  go_wp2_with fail
  refine hK _ _ hS ?_
  clear hK
  refine plan_step rfl rfl (fun K hK => ?_)
  go_wp2_with fail
  refine (is_dead HD.out).mono ?_
  rintro e w' ⟨rfl, rfl⟩
  refine hK _ _ hS ?_
  clear hK
  refine plan_step rfl rfl (fun K hK => ?_)
  go_wp2_with fail
  refine hK _ _ hS ?_
  clear hK
  refine plan_step rfl rfl (fun K hK => ?_)
  go_wp2_with fail
  refine hK _ _ hS ?_
  clear hK
  refine plan_skip rfl rfl hS ?_
  refine plan_skip rfl rfl hS ?_
  refine plan_skip rfl rfl hS ?_
  refine plan_skip rfl rfl hS ?_
  refine plan_skip rfl rfl hS ?_
  refine plan_skip rfl rfl hS ?_
  go_frame
  refine plan_step rfl rfl (fun K hK => ?_)
  go_wp2_with fail
  refine hK _ _ hS ?_
  clear hK
  refine plan_done ?_
  go_wp2_with fail
  go_ret
  exact ⟨rfl, hS⟩
end Go.Proofs.Ytfpmgcpdjlkomaa
