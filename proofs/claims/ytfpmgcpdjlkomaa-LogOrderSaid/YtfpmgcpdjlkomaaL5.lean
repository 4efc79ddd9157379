/- The log as a list of keys and commands; New, Len, First, Add of a late command, by contracts. -/
import Derived.Test.YtfpmgcpdjlkomaaL4
import Derived.StillTailTactics
namespace Go.Proofs.Ytfpmgcpdjlkomaa
open Go.RowKit Go.Px Go.Proofs Go.Shelf
open Go.Maps (Keyed)
set_option maxHeartbeats 400000
set_option maxRecDepth 100000

theorem Try.laidOut : laidOutB Try.prog = true := by kernel_rfl
theorem Try.row40 : (40 : TypeId) < Try.prog.types.size := of_decide_eq_true (by kernel_rfl)
theorem Try.wide40 : (match Try.prog.underlying 40 with | some (.array _ _) | some (.struct _) => true | _ => false) = true := by rw [Try.underlying40]
theorem Try.keyed : Keyed Try.prog 40 := Keyed.of_law (deep_law_laid Try.laidOut (m := 3) (by omega) Try.row40 (by kernel_rfl) Try.wide40)

/-- The numbers of a key are ints. -/
def Key.wf (k : Key) : Prop := (Lit.int .i64 k.t).wf = true ∧ (Lit.int .i64 k.p).wf = true ∧ (Lit.int .i64 k.s).wf = true

theorem Try.tsize : Try.prog.types.size = 118 + 1 := by kernel_rfl

theorem key_good {k : Key} (h : k.wf) : ∃ l, keyOf Try.prog 40 k.val = some l := by
  have := keyOf_ints (n := 3) (e := 3) Try.underlying40 (by kernel_rfl) (by kernel_rfl) (by kernel_rfl) Try.tsize (by simp) Try.underlying3 (by kernel_rfl) k.l rfl (by
    intro x hx
    simp [Key.l] at hx
    rcases hx with rfl | rfl | rfl
    · exact h.1
    · exact h.2.1
    · exact h.2.2)
  simpa [Key.l, Key.val] using this

/-- A command in memory: its cells, and what its list of units reads as. -/
structure Cmd where
  v : CmdV
  us : List Int

def Cmd.val (c : Cmd) : Value := c.v.val
def Cmd.key (c : Cmd) : Key := ⟨c.v.tick, c.v.player, c.v.seq⟩
def Cmd.cells (c : Cmd) : List Value := c.us.map (Value.int .i64)

/-- The log's memory: at p the struct, at m its map; each command's units are a row of the log's own. -/
structure LogIs (w : World) (p m : Nat) (B : Nat) (first : Int) (L : List (Key × Cmd)) : Prop where
  blk : Blk w p #[.int .i64 first, .map (some m)] 61
  map : IsMap Try.prog 40 Key.val Cmd.val w m L
  key : ∀ x ∈ L, x.1 = x.2.key
  own : ∀ x ∈ L, w.ownsRow B 3 1 x.2.v.units x.2.us.length x.2.cells
  lim : ∀ x ∈ L, x.2.us.length * 8 ≤ 140737488355328

theorem LogIs.chg {S : Nat → Prop} {w w' : World} {p m B : Nat} {first : Int} {L : List (Key × Cmd)} (h : LogIs w p m B first L) (hc : Chg S w w') (hp : ¬ S p) (hm : ¬ S m) (hu : ∀ x ∈ L, ∀ k, x.2.v.units.ownBlock = some k → ¬ S k) : LogIs w' p m B first L :=
  ⟨h.blk.chg hc hp, h.map.chg hc hm, h.key, fun x hx => ownsRow_chg (h.own x hx) hc (hu x hx), h.lim⟩

theorem LogIs.chgNo {w w' : World} {p m B : Nat} {first : Int} {L : List (Key × Cmd)} (h : LogIs w p m B first L) (hc : Chg No w w') : LogIs w' p m B first L :=
  h.chg hc (fun e => e) (fun e => e) (fun _ _ _ _ e => e)

theorem new_any (first : Int) (w : World) : Calls Try.prog 8 #[.int .i64 first] w fun e w' => e = .returned (.pointer (some ⟨w.heap.size + 1, 0, none⟩)) ∧ LogIs w' (w.heap.size + 1) w.heap.size w.heap.size first [] ∧ Chg No w w' := by
  have hmm := @run_makeMap Try.prog
  go_enter Try.func8, Try.ntmps8
  go_wp2
  go_ret
  refine ⟨rfl, ⟨?_, (IsMap.made _ _ _ _ w).chg ((Chg.refl No _).alloc _) (fun e => e), by simp, by simp, by simp⟩, ((Chg.refl No w).alloc _).alloc _⟩
  have := Blk.new (w.alloc (.map #[] 0)) #[.int .i64 first, .map (some w.heap.size)] 61
  simpa using this

theorem is_blk {p m : Nat} {x : Value} {w : World} (h : Blk w p #[x, .map (some m)] 61) : Calls Try.prog 23 #[.pointer (some ⟨p, 0, none⟩)] w fun e w' => e = .returned (.bool true) ∧ w = w' :=
  is_some p m w (by rw [h.cell]; rfl)

theorem len_any {w : World} {p m B : Nat} {first : Int} {L : List (Key × Cmd)} (h : LogIs w p m B first L) : Calls Try.prog 16 #[.pointer (some ⟨p, 0, none⟩)] w fun e w' => e = .returned (.int .i64 L.length) ∧ w = w' := by
  have hc := h.blk.cell
  have c1 := hc 1
  simp at c1
  have hl : ∀ ty, (Builtin.len_ #[59] ty #[.map (some m)]).run Try.prog w = .ok (.int .i64 L.length) w := fun ty => h.map.len Try.u59
  have HC := hid hc
  clear hc
  go_enter Try.func16, Try.ntmps16
  go_wp2_with (go_at_call 23; refine (is_some p m _ c1).mono ?_; rintro e w' ⟨rfl, rfl⟩)
  go_ret
  exact ⟨rfl, rfl⟩

theorem first_any {w : World} {p m B : Nat} {first : Int} {L : List (Key × Cmd)} (h : LogIs w p m B first L) : Calls Try.prog 18 #[.pointer (some ⟨p, 0, none⟩)] w fun e w' => e = .returned (.int .i64 first) ∧ w = w' := by
  have hc := h.blk.cell
  have c1 := hc 1
  have c0 := hc 0
  simp at c1 c0
  have HC := hid hc
  clear hc
  go_enter Try.func18, Try.ntmps18
  go_wp2_with (go_at_call 23; refine (is_some p m _ c1).mono ?_; rintro e w' ⟨rfl, rfl⟩)
  go_ret
  exact ⟨rfl, rfl⟩

theorem add_late {w : World} {p m B : Nat} {first : Int} {L : List (Key × Cmd)} (h : LogIs w p m B first L) (c : Cmd) (hlt : c.v.tick < first) : Calls Try.prog 9 #[.pointer (some ⟨p, 0, none⟩), c.val] w fun e w' => e = .returned (.int .i64 7) ∧ Chg No w w' := by
  have hb := h.blk
  obtain ⟨⟨t, pl, s, k, ua, un, uc, x, y, ww, hh, id, cl, sz⟩, us⟩ := c
  simp only at hlt
  unfold Cmd.val CmdV.val CmdV.cells
  clear h
  go_enter Try.func9, Try.ntmps9
  go_wp2_with (go_at_call 23; refine (is_blk (hb.alloc _)).mono ?_; rintro e w' ⟨rfl, rfl⟩)
  refine wp_world (fun w0 => w0.cell? ⟨w.heap.size, 0, none⟩ = some (.int .i64 t) ∧ w0.cell? ⟨p, 0, none⟩ = some (.int .i64 first) ∧ Chg No w w0)
    ⟨((Blk.new _ _ _).alloc _).c 0 rfl, ((hb.alloc _).alloc _).c 0 rfl, ((Chg.refl _ _).alloc _).alloc _⟩ ?_
  rintro w0 ⟨c1, c2, hch⟩
  go_quiet (fail)
  go_wp2_with fail
  go_outline
  go_ret
  exact ⟨rfl, hch.drewN _⟩
end Go.Proofs.Ytfpmgcpdjlkomaa
