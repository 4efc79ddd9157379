/- Add of a known key, Add of a new one, by contracts. -/
import Derived.Test.YtfpmgcpdjlkomaaL5
import Derived.Deep.RegionHeld3
namespace Go.Proofs.Ytfpmgcpdjlkomaa
open Go.RowKit Go.Px Go.Proofs Go.Shelf
open Go.Maps (Keyed)
set_option maxHeartbeats 400000
set_option maxRecDepth 100000

def zcmd : Value := .agg #[.int .i64 0, .int .i64 0, .int .i64 0, .int .i64 0, .slice none 0 0, .int .i64 0, .int .i64 0, .int .i64 0, .int .i64 0, .int .i64 0, .int .i64 0, .int .i64 0]
theorem zero28 (w : World) : (zeroValue 28).run Try.prog w = .ok zcmd w := by kernel_rfl

theorem lookup_some {w : World} {m : Nat} {L : List (Key × Cmd)} (h : IsMap Try.prog 40 Key.val Cmd.val w m L) (k : Key) (hk : k.wf) {c : Cmd} (hg : get L k = some c) :
    (Instr.lookup 59 (.map (some m)) k.val true).run Try.prog w = .ok (.tuple #[c.val, .bool true]) w ∧ (Instr.lookup 59 (.map (some m)) k.val false).run Try.prog w = .ok c.val w := by
  obtain ⟨l, hl⟩ := key_good hk
  exact h.look_some Try.keyed Key.inj Try.u59 zero28 k hl hg

theorem lookup_none {w : World} {m : Nat} {L : List (Key × Cmd)} (h : IsMap Try.prog 40 Key.val Cmd.val w m L) (k : Key) (hk : k.wf) (hg : get L k = none) :
    (Instr.lookup 59 (.map (some m)) k.val true).run Try.prog w = .ok (.tuple #[zcmd, .bool false]) w ∧ (Instr.lookup 59 (.map (some m)) k.val false).run Try.prog w = .ok zcmd w := by
  obtain ⟨l, hl⟩ := key_good hk
  exact h.look_none Try.keyed Key.inj Try.u59 zero28 k hl hg

/-- own, at any command. -/
theorem own_cmd (c : Cmd) (w : World) (hu : Sl w c.v.units c.us.length c.cells) (hlim : c.us.length * 8 ≤ 140737488355328) :
    Calls Try.prog 24 #[c.val] w fun e w' => ∃ v' : CmdV, e = .returned v'.val ∧ v' = { c.v with ua := v'.ua, un := v'.un, uc := v'.uc } ∧ w'.ownsRow w.heap.size 3 1 v'.units c.us.length c.cells ∧ Chg No w w' := by
  obtain ⟨a, cap, hv, h1, h2, h3, h4⟩ := hu
  cases a with
  | none =>
    obtain ⟨e1, rfl, e3⟩ := h3 rfl
    rw [e1] at hv
    refine (own_nil c.v w hv).mono ?_
    rintro e w' ⟨rfl, hc⟩
    exact ⟨c.v, rfl, rfl, by rw [hv, e1, e3]; exact World.ownsRow_nil _ _ _ _, hc⟩
  | some ad =>
    exact own_some c.v w ad c.us.length cap c.cells hv (by simp [Cmd.cells]) (by rw [← hv]; exact ⟨_, _, hv, h1, h2, h3, h4⟩) (by simp [Cmd.cells, Value.oneCell']) hlim

theorem put_cmd {w w3 : World} {m : Nat} {L : List (Key × Cmd)} (h : IsMap Try.prog 40 Key.val Cmd.val w m L) (hc : Chg No w.drew w3) (k : Key) (hk : k.wf) (c : Cmd) :
    ∃ w', (Instr.mapUpdate 59 (.map (some m)) (.agg #[.int .i64 k.t, .int .i64 k.p, .int .i64 k.s]) c.v.val).run Try.prog w3 = .ok () w' ∧ IsMap Try.prog 40 Key.val Cmd.val w' m (put L k c) ∧ (∀ S, S m → Chg S w3 w') ∧ w'.heap.size = w3.heap.size := by
  obtain ⟨l, hl⟩ := key_good hk
  exact (h.chgNo ((Chg.refl No w).drew.trans hc)).update Try.keyed Key.inj Try.u59 k c hl

theorem LogIs.pm {w : World} {p m B : Nat} {first : Int} {L : List (Key × Cmd)} (h : LogIs w p m B first L) : p ≠ m := by
  intro e
  subst e
  obtain ⟨_, _, hm⟩ := h.map.obj
  have hb := h.blk
  unfold Blk at hb
  rw [hm] at hb
  cases hb

theorem LogIs.um {w : World} {p m B : Nat} {first : Int} {L : List (Key × Cmd)} (h : LogIs w p m B first L) {x : Key × Cmd} (hx : x ∈ L) : ∀ k, x.2.v.units.ownBlock = some k → k ≠ m := by
  obtain ⟨_, _, hm⟩ := h.map.obj
  exact owns_ne_obj (h.own x hx) hm (fun _ _ _ e => by cases e)

theorem add_fin {w w2 w3 w4 : World} {p m B : Nat} {first : Int} {L : List (Key × Cmd)} (h : LogIs w p m B first L) (hch : Chg No w w2) (hc3 : Chg No w2.drew w3) {k : Key} {c' : Cmd} (hm4 : IsMap Try.prog 40 Key.val Cmd.val w4 m (put L k c')) (hch4 : ∀ S : Nat → Prop, S m → Chg S w3 w4)
    (hB : B ≤ w.heap.size) (hown : w3.ownsRow w2.drew.heap.size 3 1 c'.v.units c'.us.length c'.cells) (hkey : k = c'.key) (hlim : c'.us.length * 8 ≤ 140737488355328) : Chg (fun j => j = m) w w4 ∧ LogIs w4 p m B first (put L k c') := by
  have c3 : Chg No w w3 := hch.drew.trans hc3
  have c4 := hch4 (fun j => j = m) rfl
  have hm3 := (h.map.chgNo c3).obj
  refine ⟨c3.to.trans c4, (h.blk.chgNo c3).chg c4 h.pm, hm4, ?_, ?_, ?_⟩
  · intro x hx
    rcases mem_put hx with rfl | ⟨hx, _⟩
    · exact hkey
    · exact h.key x hx
  · intro x hx
    rcases mem_put hx with rfl | ⟨hx, _⟩
    · obtain ⟨_, _, hm⟩ := hm3
      refine ownsRow_mono (B := w2.drew.heap.size) ?_ (Nat.le_trans hB hch.size)
      exact ownsRow_chg hown c4 (owns_ne_obj hown hm (fun _ _ _ e => by cases e))
    · exact ownsRow_chg (ownsRow_chg (h.own x hx) c3 (fun _ _ e => e)) c4 (h.um hx)
  · intro x hx
    rcases mem_put hx with rfl | ⟨hx, _⟩
    · exact hlim
    · exact h.lim x hx

theorem add_same {w : World} {p m B : Nat} {first : Int} {L : List (Key × Cmd)} (h : LogIs w p m B first L) (c : Cmd) (hlt : first ≤ c.v.tick) (hk : c.key.wf) (hs : hask L c.key = true) : Calls Try.prog 9 #[.pointer (some ⟨p, 0, none⟩), c.val] w fun e w' => e = .returned (.int .i64 8) ∧ Chg No w w' := by
  have hb := h.blk
  have hm := h.map
  obtain ⟨c0, hg⟩ : ∃ c0, get L c.key = some c0 := by rw [hask_get] at hs; exact Option.isSome_iff_exists.1 hs
  obtain ⟨⟨t, pl, s, k, ua, un, uc, x, y, ww, hh, id, cl, sz⟩, us⟩ := c
  simp only [Cmd.key] at hlt hk hg
  unfold Cmd.val CmdV.val CmdV.cells
  clear h hs
  have HG := hid hg
  clear hg
  go_enter Try.func9, Try.ntmps9
  go_wp2_with (go_at_call 23; refine (is_blk (hb.alloc _)).mono ?_; rintro e w' ⟨rfl, rfl⟩)
  refine wp_world (fun w0 => w0.cell? ⟨w.heap.size, 0, none⟩ = some (.int .i64 t) ∧ Blk w0 (w.heap.size + 1) #[.int .i64 t, .int .i64 pl, .int .i64 s] 40 ∧ Blk w0 p #[.int .i64 first, .map (some m)] 61 ∧ IsMap Try.prog 40 Key.val Cmd.val w0 m L ∧ Chg No w w0)
    ⟨((Blk.new _ _ _).alloc _).c 0 rfl, Blk.newAt _ _ (by simp), (hb.alloc _).alloc _, (hm.chg ((Chg.refl No _).alloc _) (fun e => e)).chg ((Chg.refl No _).alloc _) (fun e => e), ((Chg.refl _ _).alloc _).alloc _⟩ ?_
  rintro w0 ⟨c1, bk, bp, hm0, hch⟩
  have c2 := bp.c 0 rfl
  go_quiet (fail)
  go_wp2_with fail
  refine wp_world (fun w1 => Blk w1 (w.heap.size + 1) #[.int .i64 t, .int .i64 pl, .int .i64 s] 40 ∧ Blk w1 p #[.int .i64 first, .map (some m)] 61 ∧ IsMap Try.prog 40 Key.val Cmd.val w1 m L ∧ Chg No w w1) ⟨bk, bp, hm0, hch.drewN _⟩ ?_
  clear c1 c2 bk bp hm0 hch hlt
  rintro w1 ⟨bk, bp, hm1, hch⟩
  have c3 := fun o => (bp.alloc o).c 1 rfl
  have c4 := bp.c 1 rfl
  have ck := bk.cell
  have ck2 := fun o => (bk.alloc o).cell
  have hz := bk.lt
  have hlk : (Instr.lookup 59 (.map (some m)) (.agg #[.int .i64 t, .int .i64 pl, .int .i64 s]) true).run Try.prog w1.drew = .ok (.tuple #[c0.val, .bool true]) w1.drew :=
    (lookup_some (hm1.chgNo (Chg.refl No w1).drew) ⟨t, pl, s⟩ hk HG.out).1
  have hlk2 : ∀ o, (Instr.lookup 59 (.map (some m)) (.agg #[.int .i64 t, .int .i64 pl, .int .i64 s]) true).run Try.prog (w1.alloc o).drew = .ok (.tuple #[c0.val, .bool true]) (w1.alloc o).drew := fun o =>
    (lookup_some (hm1.chgNo ((Chg.refl No w1).alloc o).drew) ⟨t, pl, s⟩ hk HG.out).1
  have HM := hid hm1
  obtain ⟨⟨d1, d2, d3, d4, da, dn, dc, d6, d7, d8, d9, d10, d11, d12⟩, us0⟩ := c0
  simp only [Cmd.val, CmdV.val, CmdV.cells] at hlk hlk2
  clear hm1 hb hm
  go_region
  go_wp2_with fail
  go_ret
  exact ⟨rfl, (hch.alloc _).drew⟩


set_option maxHeartbeats 4000000 in
theorem add_new {w : World} {p m B : Nat} {first : Int} {L : List (Key × Cmd)} (h : LogIs w p m B first L) (c : Cmd) (hlt : first ≤ c.v.tick) (hk : c.key.wf) (hs : hask L c.key = false) (hf : (L.length : Int) < 4096) (hB : B ≤ w.heap.size)
    (hu : Sl w c.v.units c.us.length c.cells) (hlim : c.us.length * 8 ≤ 140737488355328) :
    Calls Try.prog 9 #[.pointer (some ⟨p, 0, none⟩), c.val] w fun e w' => e = .returned (.int .i64 0) ∧ Chg (fun j => j = m) w w' ∧ ∃ c' : Cmd, c'.us = c.us ∧ c'.v = { c.v with ua := c'.v.ua, un := c'.v.un, uc := c'.v.uc } ∧ LogIs w' p m B first (put L c.key c') := by
  have hb := h.blk
  have hm := h.map
  have hg : get L c.key = none := by rw [hask_get] at hs; simpa using hs
  have HLOG := hid h
  have HC := hid (show c.key = c.key from rfl)
  obtain ⟨⟨t, pl, s, k, ua, un, uc, x, y, ww, hh, id, cl, sz⟩, us⟩ := c
  simp only [Cmd.key] at hlt hk hg
  unfold Cmd.val CmdV.val CmdV.cells
  have HG := hid hg
  have HU := hid hu
  have HS := hid hs
  clear h hg hs hu
  go_enter Try.func9, Try.ntmps9
  go_wp2_with (go_at_call 23; refine (is_blk (hb.alloc _)).mono ?_; rintro e w' ⟨rfl, rfl⟩)
  refine wp_world (fun w0 => Blk w0 w.heap.size #[.int .i64 t, .int .i64 pl, .int .i64 s, .int .i64 k, .slice ua un uc, .int .i64 x, .int .i64 y, .int .i64 ww, .int .i64 hh, .int .i64 id, .int .i64 cl, .int .i64 sz] 28 ∧ Blk w0 (w.heap.size + 1) #[.int .i64 t, .int .i64 pl, .int .i64 s] 40 ∧ Blk w0 p #[.int .i64 first, .map (some m)] 61 ∧ IsMap Try.prog 40 Key.val Cmd.val w0 m L ∧ Chg No w w0)
    ⟨(Blk.new _ _ _).alloc _, Blk.newAt _ _ (by simp), (hb.alloc _).alloc _, (hm.chg ((Chg.refl No _).alloc _) (fun e => e)).chg ((Chg.refl No _).alloc _) (fun e => e), ((Chg.refl _ _).alloc _).alloc _⟩ ?_
  rintro w0 ⟨bc, bk, bp, hm0, hch⟩
  have c1 := bc.c 0 rfl
  have c2 := bp.c 0 rfl
  go_quiet (fail)
  go_wp2_with fail
  refine wp_world (fun w1 => Blk w1 w.heap.size #[.int .i64 t, .int .i64 pl, .int .i64 s, .int .i64 k, .slice ua un uc, .int .i64 x, .int .i64 y, .int .i64 ww, .int .i64 hh, .int .i64 id, .int .i64 cl, .int .i64 sz] 28 ∧ Blk w1 (w.heap.size + 1) #[.int .i64 t, .int .i64 pl, .int .i64 s] 40 ∧ Blk w1 p #[.int .i64 first, .map (some m)] 61 ∧ IsMap Try.prog 40 Key.val Cmd.val w1 m L ∧ Chg No w w1) ⟨bc, bk, bp, hm0, hch.drewN _⟩ ?_
  clear c1 c2 bc bk bp hm0 hch hlt
  rintro w1 ⟨bc, bk, bp, hm1, hch⟩
  have c3 := fun o => (bp.alloc o).c 1 rfl
  have c4 := bp.c 1 rfl
  have ck := bk.cell
  have ck2 := fun o => (bk.alloc o).cell
  have hz := bk.lt
  have hlk : (Instr.lookup 59 (.map (some m)) (.agg #[.int .i64 t, .int .i64 pl, .int .i64 s]) true).run Try.prog w1.drew = .ok (.tuple #[zcmd, .bool false]) w1.drew :=
    (lookup_none (hm1.chgNo (Chg.refl No w1).drew) ⟨t, pl, s⟩ hk HG.out).1
  have hlk2 : ∀ o, (Instr.lookup 59 (.map (some m)) (.agg #[.int .i64 t, .int .i64 pl, .int .i64 s]) true).run Try.prog (w1.alloc o).drew = .ok (.tuple #[zcmd, .bool false]) (w1.alloc o).drew := fun o =>
    (lookup_none (hm1.chgNo ((Chg.refl No w1).alloc o).drew) ⟨t, pl, s⟩ hk HG.out).1
  have HM := hid hm1
  have HLEN : ∀ o ty, (Builtin.len_ #[59] ty #[.map (some m)]).run Try.prog (w1.alloc o).drew = .ok (.int .i64 L.length) (w1.alloc o).drew := fun o ty => (hm1.chgNo ((Chg.refl No w1).alloc o).drew).len Try.u59
  unfold zcmd at hlk hlk2
  clear hm1 hb hm
  have hF : Blk w1 w.heap.size #[.int .i64 t, .int .i64 pl, .int .i64 s, .int .i64 k, .slice ua un uc, .int .i64 x, .int .i64 y, .int .i64 ww, .int .i64 hh, .int .i64 id, .int .i64 cl, .int .i64 sz] 28 ∧ Blk w1 (w.heap.size + 1) #[.int .i64 t, .int .i64 pl, .int .i64 s] 40 ∧ Blk w1 p #[.int .i64 first, .map (some m)] 61 ∧ IsMap Try.prog 40 Key.val Cmd.val w1 m L ∧ Chg No w w1 := ⟨bc, bk, bp, HM.out, hch⟩
  have HF := hid hF
  clear hF bc bk bp hch
  go_region
  go_wp2_with fail
  refine wp_world (fun w1 => Blk w1 w.heap.size #[.int .i64 t, .int .i64 pl, .int .i64 s, .int .i64 k, .slice ua un uc, .int .i64 x, .int .i64 y, .int .i64 ww, .int .i64 hh, .int .i64 id, .int .i64 cl, .int .i64 sz] 28 ∧ Blk w1 (w.heap.size + 1) #[.int .i64 t, .int .i64 pl, .int .i64 s] 40 ∧ Blk w1 p #[.int .i64 first, .map (some m)] 61 ∧ IsMap Try.prog 40 Key.val Cmd.val w1 m L ∧ Chg No w w1)
    (by obtain ⟨b1, b2, b3, b4, b5⟩ := HF.out; exact ⟨b1.alloc _, b2.alloc _, b3.alloc _, b4.chgNo ((Chg.refl No w1).alloc _).drew, (b5.alloc _).drew⟩) ?_
  clear HF HM HLEN hlk hlk2 hz c3 c4 ck ck2
  rintro w2 ⟨bc, bk, bp, hm2, hch⟩
  have c1 := bp.c 1 rfl
  have k0 := bk.c 0 rfl
  have k1 := bk.c 1 rfl
  have k2 := bk.c 2 rfl
  have d0 := bc.c 0 rfl
  have d1 := bc.c 1 rfl
  have d2 := bc.c 2 rfl
  have d3 := bc.c 3 rfl
  have d4 := bc.c 4 rfl
  have d5 := bc.c 5 rfl
  have d6 := bc.c 6 rfl
  have d7 := bc.c 7 rfl
  have d8 := bc.c 8 rfl
  have d9 := bc.c 9 rfl
  have d10 := bc.c 10 rfl
  have d11 := bc.c 11 rfl
  have HM := hid hm2
  have HB := hid hB
  have HSL : Hid (Sl w2.drew (Cmd.v ⟨⟨t, pl, s, k, ua, un, uc, x, y, ww, hh, id, cl, sz⟩, us⟩).units us.length (Cmd.cells ⟨⟨t, pl, s, k, ua, un, uc, x, y, ww, hh, id, cl, sz⟩, us⟩)) := HU.out.chg hch.drew (fun _ _ _ _ e => e)
  have HCH := hid hch
  have HLIM := hid hlim
  clear hf hm2 bk bp bc hlim hB hch
  have HK := hid hk
  have hoc := own_cmd ⟨⟨t, pl, s, k, ua, un, uc, x, y, ww, hh, id, cl, sz⟩, us⟩ w2.drew HSL.out HLIM.out
  simp only [Cmd.val, CmdV.val, CmdV.cells] at hoc
  have HOC := hid hoc
  have hup0 := fun w3 hc v' => put_cmd (w := w2) (w3 := w3) HM.out hc ⟨t, pl, s⟩ HK.out ⟨v', us⟩
  simp only [CmdV.val, CmdV.cells] at hup0
  have HUP := hid hup0
  clear hk hoc hup0
  go_region_with (go_at_call 24; refine HOC.out.mono ?_; rintro e w3 ⟨v', rfl, hv, hown, hc3⟩; have c1' := hc3.cell c1 (fun e => e); have k0' := hc3.cell k0 (fun e => e); have k1' := hc3.cell k1 (fun e => e); have k2' := hc3.cell k2 (fun e => e); have HC3 := hid hc3; have HV := hid hv; have HOWN := hid hown; obtain ⟨w4, hup, hm4, hch4, hsz4⟩ := HUP.out w3 HC3.out v'; have HM4 := hid hm4; have HCH4 := hid hch4; have HSZ4 := hid hsz4; clear hc3 hv hown hm4 hch4 hsz4)
  all_goals
    go_wp2_with fail
    go_ret
    obtain ⟨f1, f2⟩ := add_fin HLOG.out HCH.out HC3.out (c' := ⟨v', us⟩) HM4.out HCH4.out HB.out HOWN.out (by have := HV.out; rw [this]; rfl) HLIM.out
    exact ⟨rfl, f1, ⟨v', us⟩, rfl, HV.out, f2⟩
end Go.Proofs.Ytfpmgcpdjlkomaa
