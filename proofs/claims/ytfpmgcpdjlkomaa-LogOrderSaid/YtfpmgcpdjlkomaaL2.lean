/- The log: is, clone, own: what each call gives, for whatever world. -/
import Derived.Test.YtfpmgcpdjlkomaaPx
import Derived.Test.YtfpmgcpdjlkomaaRows
import Derived.Deep.QuietTactic
import Derived.BigQuiet
namespace Go.Proofs.Ytfpmgcpdjlkomaa
open Go.RowKit Go.Px
set_option maxHeartbeats 400000
set_option maxRecDepth 100000

theorem Try.u59 : Try.prog.underlying 59 = some (.map 40 28) := by kernel_rfl
theorem Try.u22 : Try.prog.underlying 22 = some (.slice 3) := by kernel_rfl
theorem Try.info3 : (Try.prog.info? 3).map (fun i => (i.zero, i.size, i.bytes)) = some (some (.int .i64 0), 1, 8) := by kernel_rfl

theorem is_nil (w : World) : Calls Try.prog 23 #[.pointer none] w fun e w' => e = .returned (.bool false) ∧ w = w' := by
  go_enter Try.func23, Try.ntmps23
  go_wp2
  go_ret
  exact ⟨rfl, rfl⟩

theorem is_zero (p : Nat) (w : World) (h0 : w.cell? ⟨p, 1, none⟩ = some (.map none)) : Calls Try.prog 23 #[.pointer (some ⟨p, 0, none⟩)] w fun e w' => e = .returned (.bool false) ∧ w = w' := by
  have hn := fun r w => run_neq_map_nil (P := Try.prog) w 59 40 28 r Try.u59
  go_enter Try.func23, Try.ntmps23
  go_wp2
  go_ret
  exact ⟨rfl, rfl⟩

theorem is_some (p m : Nat) (w : World) (h0 : w.cell? ⟨p, 1, none⟩ = some (.map (some m))) : Calls Try.prog 23 #[.pointer (some ⟨p, 0, none⟩)] w fun e w' => e = .returned (.bool true) ∧ w = w' := by
  have hn := fun r w => run_neq_map_nil (P := Try.prog) w 59 40 28 r Try.u59
  go_enter Try.func23, Try.ntmps23
  go_wp2
  go_ret
  exact ⟨rfl, rfl⟩

theorem clone_nil (w : World) : Calls Try.prog 31 #[.slice none 0 0] w fun e w' => e = .returned (.slice none 0 0) ∧ w = w' := by
  have hn := fun w a n c => Lib.run_eql_slice_nil (P := Try.prog) w 22 3 a n c 0 0 Try.u22
  go_enter Try.func31, Try.ntmps31
  go_wp2
  go_ret
  exact ⟨rfl, rfl⟩


theorem Try.E22 : EI Try.prog 22 3 (.int .i64 0) 1 8 := ⟨Try.u22, Try.info3, rfl, by decide, by decide⟩

/-- slices.Clone of a []int: the same ints, in a row of its own. -/
theorem clone_some (w : World) (a : Addr) (n c : Nat) (cs : List Value) (hl : cs.length = n) (hc : Sl w (.slice (some a) n c) n cs) (h1 : ∀ u ∈ cs, u.oneCell' = true) (hb : n * 8 ≤ 140737488355328) :
    Calls Try.prog 31 #[.slice (some a) n c] w fun e w' => ∃ v', e = .returned v' ∧ w'.ownsRow w.heap.size 3 1 v' n cs ∧ Chg No w w' := by
  have hn := fun w a n c => Lib.run_eql_slice_nil (P := Try.prog) w 22 3 a n c 0 0 Try.u22
  have hown : (w.alloc (.cells #[] 3)).ownsRow w.heap.size 3 1 (.slice (some ⟨w.heap.size, 0, none⟩) 0 0) 0 [] := ownsRow_lit (cs := []) 0 (Nat.le_refl _) (by decide) rfl
  have hsl : Sl (w.alloc (.cells #[] 3)) (.slice (some a) n c) n cs := hc.chg ((Chg.refl No w).alloc _) (fun _ _ _ _ h => h)
  go_enter Try.func31, Try.ntmps31
  go_wp2_with (at_builtin; refine st_append_sl Try.E22 rfl rfl hown rfl hsl rfl (by omega) h1 (by omega) (by simp) ?_; intro v' w1 hown hgrow)
  go_ret
  refine ⟨v', rfl, by simpa using hown, ((Chg.refl No w).alloc _).grown hgrow (fun k hk hlt => ?_)⟩
  simp [Value.ownBlock] at hk
  omega

/-- The memory of a command: twelve cells, the list of units among them. -/
structure CmdV where
  tick : Int
  player : Int
  seq : Int
  kind : Int
  ua : Option Addr
  un : Nat
  uc : Nat
  x : Int
  y : Int
  w : Int
  h : Int
  id : Int
  cls : Int
  size : Int

def CmdV.units (c : CmdV) : Value := .slice c.ua c.un c.uc
def CmdV.cells (c : CmdV) : Array Value := #[.int .i64 c.tick, .int .i64 c.player, .int .i64 c.seq, .int .i64 c.kind, .slice c.ua c.un c.uc, .int .i64 c.x, .int .i64 c.y, .int .i64 c.w, .int .i64 c.h, .int .i64 c.id, .int .i64 c.cls, .int .i64 c.size]
def CmdV.val (c : CmdV) : Value := .agg c.cells

theorem own_nil (c : CmdV) (w : World) (hu : c.units = .slice none 0 0) : Calls Try.prog 24 #[c.val] w fun e w' => e = .returned c.val ∧ Chg No w w' := by
  obtain ⟨t, p, s, k, ua, un, uc, x, y, ww, h, id, cl, sz⟩ := c
  simp only [CmdV.units, Value.slice.injEq] at hu
  obtain ⟨rfl, rfl, rfl⟩ := hu
  unfold CmdV.val CmdV.cells
  go_enter Try.func24, Try.ntmps24
  go_wp2_with (go_at_call 31; refine (clone_nil _).mono ?_; rintro e w' ⟨rfl, rfl⟩)
  exact bodyPost_ret (v := .agg #[.int .i64 t, .int .i64 p, .int .i64 s, .int .i64 k, .slice none 0 0, .int .i64 x, .int .i64 y, .int .i64 ww, .int .i64 h, .int .i64 id, .int .i64 cl, .int .i64 sz]) (by simp [results, Try.results24, go_sem]) rfl ⟨rfl, ((Chg.refl No w).alloc _).alloc _⟩

theorem own_some (c : CmdV) (w : World) (a : Addr) (n cap : Nat) (cs : List Value) (hu : c.units = .slice (some a) n cap) (hl : cs.length = n) (hc : Sl w (.slice (some a) n cap) n cs) (h1 : ∀ u ∈ cs, u.oneCell' = true) (hb : n * 8 ≤ 140737488355328) :
    Calls Try.prog 24 #[c.val] w fun e w' => ∃ v' : CmdV, e = .returned v'.val ∧ v' = { c with ua := v'.ua, un := v'.un, uc := v'.uc } ∧ w'.ownsRow w.heap.size 3 1 v'.units n cs ∧ Chg No w w' := by
  obtain ⟨t, p, s, k, ua, un, uc, x, y, ww, h, id, cl, sz⟩ := c
  simp only [CmdV.units, Value.slice.injEq] at hu
  obtain ⟨e1, e2, e3⟩ := hu
  obtain rfl : n = un := e2.symm
  obtain rfl : cap = uc := e3.symm
  subst e1
  unfold CmdV.val CmdV.cells
  go_enter Try.func24, Try.ntmps24
  go_wp2_with fail
  obtain ⟨w0, hw0⟩ : ∃ w0, (w.alloc (.cells #[.int .i64 t, .int .i64 p, .int .i64 s, .int .i64 k, .slice (some a) n cap, .int .i64 x, .int .i64 y, .int .i64 ww, .int .i64 h, .int .i64 id, .int .i64 cl, .int .i64 sz] 28)).alloc (.cells #[.int .i64 0, .int .i64 0, .int .i64 0, .int .i64 0, .slice none 0 0, .int .i64 0, .int .i64 0, .int .i64 0, .int .i64 0, .int .i64 0, .int .i64 0, .int .i64 0] 28) = w0 := ⟨_, rfl⟩
  have b1 : Blk w0 w.heap.size #[.int .i64 t, .int .i64 p, .int .i64 s, .int .i64 k, .slice (some a) n cap, .int .i64 x, .int .i64 y, .int .i64 ww, .int .i64 h, .int .i64 id, .int .i64 cl, .int .i64 sz] 28 := by subst hw0; exact (Blk.new _ _ _).alloc _
  have b2 : Blk w0 (w.heap.size + 1) #[.int .i64 0, .int .i64 0, .int .i64 0, .int .i64 0, .slice none 0 0, .int .i64 0, .int .i64 0, .int .i64 0, .int .i64 0, .int .i64 0, .int .i64 0, .int .i64 0] 28 := by
    subst hw0; have := Blk.new (w.alloc (.cells #[.int .i64 t, .int .i64 p, .int .i64 s, .int .i64 k, .slice (some a) n cap, .int .i64 x, .int .i64 y, .int .i64 ww, .int .i64 h, .int .i64 id, .int .i64 cl, .int .i64 sz] 28)) #[.int .i64 0, .int .i64 0, .int .i64 0, .int .i64 0, .slice none 0 0, .int .i64 0, .int .i64 0, .int .i64 0, .int .i64 0, .int .i64 0, .int .i64 0, .int .i64 0] 28; simpa using this
  have c0 : Chg No w w0 := by subst hw0; exact ((Chg.refl No w).alloc _).alloc _
  have z0 : w0.heap.size = w.heap.size + 2 := by subst hw0; simp
  rw [hw0]
  clear hw0
  refine (clone_some w0 a n cap cs hl (hc.chg c0 (fun _ _ _ _ h => h)) h1 hb).mono ?_
  rintro e w1 ⟨v', rfl, hown, c1⟩
  have e1 := (b1.chg c1 (fun e => e)).cell
  have f1 := (b1.chg c1 (fun e => e)).free
  have e2 := (b2.chg c1 (fun e => e)).cell
  have f2 := (b2.chg c1 (fun e => e)).free
  obtain ⟨ad, c', hv'⟩ : ∃ ad c', v' = .slice ad n c' := by obtain ⟨ad, c', e, _⟩ := Sl.ofOwns hown; exact ⟨ad, c', e⟩
  subst hv'
  have H := hid z0
  clear z0 b1 b2
  go_wp2_with fail
  refine bodyPost_ret (v := .agg #[.int .i64 t, .int .i64 p, .int .i64 s, .int .i64 k, .slice ad n c', .int .i64 x, .int .i64 y, .int .i64 ww, .int .i64 h, .int .i64 id, .int .i64 cl, .int .i64 sz]) (by simp [results, Try.results24, go_sem, e2]) rfl ⟨⟨t, p, s, k, ad, n, c', x, y, ww, h, id, cl, sz⟩, rfl, rfl, ?_, ?_⟩
  · have hz := H.out
    refine ownsRow_mono (B := w0.heap.size) ?_ (by omega)
    have hk : ∀ k, (Value.slice ad n c').ownBlock = some k → w0.heap.size ≤ k := fun k hk => (hown.lt k hk).1
    repeat (refine ownsRow_setCell_other ?_ (fun e => by have := hk _ e; simp at this; omega) _)
    exact hown
  · repeat (refine Chg.setCell ?_ _ _ (fun hlt => absurd hlt (by dsimp only; omega)))
    exact c0.trans c1

end Go.Proofs.Ytfpmgcpdjlkomaa
