/- The law's own 'from', by contracts: all commands from a tick on, in order. -/
import Derived.Test.YtfpmgcpdjlkomaaL14
import Derived.RangeFuncNested
import Derived.RangeFuncBound
import Derived.RangeFuncCalls
import Derived.RangeFuncLeaves
import Derived.RangeFuncRecord
import Derived.Shelf.Abstract
import Derived.Shelf.RegionOpen
import Derived.WalkKit
import Derived.OwnWalkIn
import Derived.TacticsInMore
import Derived.LoopNIn
import Derived.LoopIn
namespace Go.Proofs.Ytfpmgcpdjlkomaa
open Go.RowKit Go.Px Go.Proofs Go.Shelf
open Go.Maps (Keyed)
attribute [local go_sem] Oper.semAt_some
set_option maxHeartbeats 400000
set_option maxRecDepth 100000

theorem from_loop {assign body : Code} (hR : RoundOk assign body) {w W0 : World} {pl : Option Addr} {tick : Int} {ks : List Key} {L : List (Key × Cmd)} {Q : Exit → Act → World → Prop}
    (hch0 : Chg No w W0) (hsz0 : W0.heap.size = w.heap.size + 4) (hbo0 : Blk W0 (w.heap.size + 1) #[.slice (some ⟨w.heap.size, 0, none⟩) 0 0] 33) (hbl0 : Blk W0 (w.heap.size + 1 + 1) #[.pointer pl] 29) (hbt0 : Blk W0 (w.heap.size + 1 + 1 + 1) #[.int .i64 tick] 3)
    (hrow0 : CmdsIs W0 w.heap.size (.slice (some ⟨w.heap.size, 0, none⟩) 0 0) [])
    (hkeys : ∀ W Bt, Chg No w W → Blk W Bt #[.int .i64 tick] 3 → Calls Try.prog 25 #[.pointer pl, .func (.func 36) #[] #[.pointer (some ⟨Bt, 0, none⟩)]] W fun e w' => ∃ v, e = .returned v ∧ w'.ownsRow W.heap.size 40 3 v ks.length (kcells ks) ∧ Chg No W w')
    (hsrc : ks ≠ [] → ∃ p m B first, pl = some ⟨p, 0, none⟩ ∧ LogIs w p m B first L) (hks : ∀ q ∈ ks, q ∈ L.map Prod.fst) (hlim : ks.length * 112 ≤ 140737488355328)
    (hQ : ∀ (D : Nat) (v : Value) (cs : List Cmd) (W' : World), w.heap.size ≤ D → W'.heap[D]? = some (.deferred (some [])) → Blk W' (w.heap.size + 1) #[v] 33 → CmdsIs W' w.heap.size v cs → cs.map (fun c => some c.abs) = ks.map (fun q => (Px.get L q).map Cmd.abs) → Chg No w W' →
      Q .normal { tmps := ftm pl tick (w.heap.size + 1) (.slice (some ⟨w.heap.size, 0, none⟩) 0 0) (.func (.func 35) #[] #[.pointer (some ⟨w.heap.size + 1 + 1, 0, none⟩), .pointer (some ⟨w.heap.size + 1 + 1 + 1, 0, none⟩)]) undef, defers := [{ target := .collected D, args := #[] }] } W') :
    (Code.rangeFunc (.tmp 10) #[11] assign body).wpIn Fence.wide 10 Try.prog Q { tmps := ftm pl tick (w.heap.size + 1) (.slice (some ⟨w.heap.size, 0, none⟩) 0 0) (.func (.func 35) #[] #[.pointer (some ⟨w.heap.size + 1 + 1, 0, none⟩), .pointer (some ⟨w.heap.size + 1 + 1 + 1, 0, none⟩)]) undef, defers := [] } W0 := by
  have eg := enters_of Try.func35 (by kernel_rfl) rfl
  refine wpIn_rangeFunc ?_
  intro fn _
  obtain ⟨r, hr⟩ : ∃ r : Loop, r = { state := .ready, pending := none, fn, tmps := ftm pl tick (w.heap.size + 1) (.slice (some ⟨w.heap.size, 0, none⟩) 0 0) (.func (.func 35) #[] #[.pointer (some ⟨w.heap.size + 1 + 1, 0, none⟩), .pointer (some ⟨w.heap.size + 1 + 1 + 1, 0, none⟩)]) undef, params := #[11], assign, body, defers := W0.heap.size } := ⟨_, rfl⟩
  obtain ⟨W1, hW1⟩ : ∃ W1, (W0.alloc (.deferred (some []))).alloc (.loop r) = W1 := ⟨_, rfl⟩
  have hL1 : W1.heap[W0.heap.size + 1]? = some (.loop r) := by
    rw [← hW1]; have := World.alloc_heap_new (W0.alloc (.deferred (some []))) (.loop r); rwa [World.size_alloc] at this
  have hK1 : W1.heap[W0.heap.size]? = some (.deferred (some [])) := by
    rw [← hW1]; exact (Below.heap_alloc _ _ _ (by simp)).trans (World.alloc_heap_new W0 _)
  have h01 : Chg No W0 W1 := by rw [← hW1]; exact ((Chg.refl No W0).alloc _).alloc _
  have hM1 : Mid r w.heap.size (w.heap.size + 1) (W0.heap.size + 1) W0.heap.size (.slice (some ⟨w.heap.size, 0, none⟩) 0 0) [] W1 := ⟨hbo0.chgNo h01, hrow0.chgNo h01, hL1, hK1⟩
  refine ⟨W0.heap.size + 1, [{ target := .collected W0.heap.size, args := #[] }], W1, { target := .fn (.func 35) #[.pointer (some ⟨w.heap.size + 1 + 1, 0, none⟩), .pointer (some ⟨w.heap.size + 1 + 1 + 1, 0, none⟩)], args := #[.func (.yield (W0.heap.size + 1)) #[] #[]] }, W1, 35,
    #[.func (.yield (W0.heap.size + 1)) #[] #[]] ++ #[.pointer (some ⟨w.heap.size + 1 + 1, 0, none⟩), .pointer (some ⟨w.heap.size + 1 + 1 + 1, 0, none⟩)], W1, ?_, ?_, ?_, ?_, fun _ => by omega, ?_⟩
  · rw [← hW1, hr]; exact run_enterLoop_outer _ _ _ _ _
  · simp [resolve, go_sem, ftm]
  · intro f' hf'; trivial
  · simp [invoke, go_sem, eg]
  · refine (iter_walk hR (fn := fn) (pl := pl) (tick := tick) (s7 := .slice (some ⟨w.heap.size, 0, none⟩) 0 0) (f10 := .func (.func 35) #[] #[.pointer (some ⟨w.heap.size + 1 + 1, 0, none⟩), .pointer (some ⟨w.heap.size + 1 + 1 + 1, 0, none⟩)]) (w0 := w) (by rw [hr]) (by rw [hr]) (by rw [hr]) (by rw [hr]) (by rw [hr]) (by rw [hr]) (by rw [hr]) hM1 (hbl0.chgNo h01) (hbt0.chgNo h01) (by omega) (by omega) (hch0.trans h01) (hkeys _ _ (hch0.trans h01) (hbt0.chgNo h01)) hsrc hks hlim).mono ?_
    rintro e W2 ⟨⟨v, rfl⟩, v2, cs, hM2, habs, hch2⟩
    have hend := run_endLoop (P := Try.prog) hM2.L (by rw [hr]; simp)
    obtain ⟨o2, ho2⟩ : ∃ o2, Obj.loop { r with state := .exhausted } = o2 := ⟨_, rfl⟩
    rw [ho2, show r.pending = none by rw [hr]] at hend
    have h23 : Chg (fun j => j = W0.heap.size + 1) W2 (W2.putObj (W0.heap.size + 1) o2) := Chg.putObj (Chg.refl _ W2) _ _ (fun _ => rfl)
    refine ⟨none, _, hend, ?_⟩
    refine hQ W0.heap.size v2 cs _ (by omega) (h23.heap hM2.K (by omega)) (hM2.box.chg h23 (by omega)) ⟨?_, ?_⟩ habs (hch2.trans' h23 (fun j hj e => by omega))
    · exact ownsRow_chg hM2.row.row h23 (fun k hk e => owns_ne_obj hM2.row.row hM2.L (fun _ _ _ e => by cases e) k hk e)
    · exact fun d hd => ownsRow_chg (hM2.row.own d hd) h23 (fun k hk e => owns_ne_obj (hM2.row.own d hd) hM2.L (fun _ _ _ e => by cases e) k hk e)

set_option maxHeartbeats 4000000 in
theorem from_gen (pl : Option Addr) (tick : Int) (w : World) (ks : List Key) (L : List (Key × Cmd))
    (hkeys : ∀ W Bt, Chg No w W → Blk W Bt #[.int .i64 tick] 3 → Calls Try.prog 25 #[.pointer pl, .func (.func 36) #[] #[.pointer (some ⟨Bt, 0, none⟩)]] W fun e w' => ∃ v, e = .returned v ∧ w'.ownsRow W.heap.size 40 3 v ks.length (kcells ks) ∧ Chg No W w')
    (hsrc : ks ≠ [] → ∃ p m B first, pl = some ⟨p, 0, none⟩ ∧ LogIs w p m B first L) (hks : ∀ q ∈ ks, q ∈ L.map Prod.fst) (hlim : ks.length * 112 ≤ 140737488355328) :
    Calls Try.prog 15 #[.pointer pl, .int .i64 tick] w fun e w' => ∃ v cs, e = .returned v ∧ CmdsIs w' w.heap.size v cs ∧ cs.map (fun c => some c.abs) = ks.map (fun q => (Px.get L q).map Cmd.abs) ∧ Chg No w w' := by
  refine callsIn_wide (n := 10) |>.1 ?_
  refine callsIn_of_wp_marks Try.func15 rfl trivial ?_ rfl
  simp only [Try.ntmps15, List.size_toArray, List.length_cons, List.length_nil, Nat.reduceAdd, Nat.reduceSub, Array.replicate_succ, Array.replicate_zero, List.push_toArray, List.append_toArray, List.nil_append, List.cons_append]
  have HKEYS := hid hkeys
  have HSRC := hid hsrc
  have HKS := hid hks
  clear hkeys hsrc hks
  gi_wp2
  refine ⟨trivial, callsIn_wide.2 ((From_any pl tick _).mono ?_)⟩
  rintro e w1 ⟨rfl, rfl⟩
  gi_wp2
  have hcode : ∀ {assign body : Code} {Q : Exit → Act → World → Prop} {a : Act} {W : World}, RoundOk assign body → (RoundOk assign body → (Code.rangeFunc (.tmp 10) #[11] assign body).wpIn Fence.wide 10 Try.prog Q a W) → (Code.rangeFunc (.tmp 10) #[11] assign body).wpIn Fence.wide 10 Try.prog Q a W := fun h k => k h
  refine hcode ?_ (fun hR => ?_)
  · intro m l D bo n0 fn pl tick s7 f10 v cs c W r hst hpe hM hc hn0 hlim
    have hL := hM.L
    have hK := hM.K
    have hbox := hM.box
    have hrow := hM.row
    obtain ⟨a0, cap0, rfl, _⟩ := Sl.ofOwns hrow.row
    clear hM
    have hcv : c.val = .agg #[.int .i64 c.v.tick, .int .i64 c.v.player, .int .i64 c.v.seq, .int .i64 c.v.kind, .slice c.v.ua c.v.un c.v.uc, .int .i64 c.v.x, .int .i64 c.v.y, .int .i64 c.v.w, .int .i64 c.v.h, .int .i64 c.v.id, .int .i64 c.v.cls, .int .i64 c.v.size] := rfl
    obtain ⟨o, ho⟩ : ∃ o, Obj.cells #[.int .i64 c.v.tick, .int .i64 c.v.player, .int .i64 c.v.seq, .int .i64 c.v.kind, .slice c.v.ua c.v.un c.v.uc, .int .i64 c.v.x, .int .i64 c.v.y, .int .i64 c.v.w, .int .i64 c.v.h, .int .i64 c.v.id, .int .i64 c.v.cls, .int .i64 c.v.size] 28 = o := ⟨_, rfl⟩
    have hL1 : (W.alloc o).heap[l]? = some (.loop r) := ((Chg.refl No W).alloc o).heap hL (fun e => e)
    refine roundIn_of_wpIn trivial ?_
    have hbr := run_beginRound (P := Try.prog) hL1 hst
    have hlb : l ≠ bo := fun e => by unfold Blk at hbox; rw [e] at hL; rw [hL] at hbox; cases hbox
    have hlW : l < W.heap.size := (Array.getElem?_eq_some_iff.1 hL).1
    have hDW : D < W.heap.size := (Array.getElem?_eq_some_iff.1 hK).1
    have hlD : l ≠ D := fun e => by rw [e] at hL; rw [hL] at hK; cases hK
    obtain ⟨W2, hW2⟩ : ∃ W2, (W.alloc o).putObj l (.loop { r with state := .busy }) = W2 := ⟨_, rfl⟩
    rw [hW2] at hbr
    have hch2 : Chg (fun j => j = l) W W2 := by rw [← hW2]; exact Chg.putObj ((Chg.refl _ W).alloc o) l _ (fun _ => rfl)
    have hL2 : W2.heap[l]? = some (.loop { r with state := .busy }) := by rw [← hW2]; exact World.putObj_heap_same (by simp; omega)
    have hK2 : W2.heap[D]? = some (.deferred (some [])) := hch2.heap hK (fun e => hlD e.symm)
    have hbox2 := hbox.chg hch2 (fun e => hlb e.symm)
    have hc2 : Blk W2 W.heap.size #[.int .i64 c.v.tick, .int .i64 c.v.player, .int .i64 c.v.seq, .int .i64 c.v.kind, .slice c.v.ua c.v.un c.v.uc, .int .i64 c.v.x, .int .i64 c.v.y, .int .i64 c.v.w, .int .i64 c.v.h, .int .i64 c.v.id, .int .i64 c.v.cls, .int .i64 c.v.size] 28 := by
      unfold Blk
      rw [← hW2, World.putObj_heap_other (by omega), ← ho]
      exact Blk.new _ _ _
    have hrow2 : W2.ownsRow n0 28 12 (.slice a0 cs.length cap0) cs.length (cs.flatMap Cmd.row) := ownsRow_chg hrow.row hch2 (fun k hk e => owns_ne_obj hrow.row hL (fun _ _ _ e => by cases e) k hk e)
    have hunits2 : ∀ d ∈ cs ++ [c], W2.ownsRow n0 3 1 d.v.units d.us.length d.cells := by
      intro d hd
      have hd' : W.ownsRow n0 3 1 d.v.units d.us.length d.cells := by
        rcases List.mem_append.1 hd with h | h
        · exact hrow.own d h
        · simp at h; subst h; exact hc
      exact ownsRow_chg hd' hch2 (fun k hk e => owns_ne_obj hd' hL (fun _ _ _ e => by cases e) k hk e)
    have hsz2 : W.heap.size ≤ W2.heap.size := hch2.size
    have HL2 := hid hL2
    have HK2 := hid hK2
    have HBOX2 := hid hbox2
    have HROW2 := hid hrow2
    have HU2 := hid hunits2
    have HCH2 := hid hch2
    have hb2 := hbox2.cell
    have hf2 := hbox2.free
    have hcc := hc2.cell
    clear hL hK hbox hrow hL1 hW2 hL2 hK2 hbox2 hrow2 hunits2 hch2 hc2
    have hgo : W2.heap.size = W2.heap.size := rfl
    have HBR := hid hbr
    clear hbr
    have hrd := Rd.new W2 c.row 28
    have hrow3 := fun o' => ownsRow_chg HROW2.out ((Chg.refl No W2).alloc o') (fun _ _ e => e)
    have hfa : ∀ k, (Value.slice a0 cs.length cap0).ownBlock = some k → k ≠ bo := fun k hk e => owns_ne_blk HROW2.out HBOX2.out (by decide) k hk e
    have hfl : ∀ k, (Value.slice a0 cs.length cap0).ownBlock = some k → k ≠ l := fun k hk e => owns_ne_obj HROW2.out HL2.out (fun _ _ _ e => by cases e) k hk e
    have hfd : ∀ k, (Value.slice a0 cs.length cap0).ownBlock = some k → k ≠ D := fun k hk e => owns_ne_obj HROW2.out HK2.out (fun _ _ _ e => by cases e) k hk e
    have hfu : ∀ d ∈ cs ++ [c], ∀ k, d.v.units.ownBlock = some k → ¬ (Value.slice a0 cs.length cap0).ownBlock = some k := fun d hd k hk e => owns_ne_owns (HU2.out d hd) HROW2.out (by decide) k hk e
    have HFA := hid hfa
    have HFL := hid hfl
    have HFD := hid hfd
    have HFU := hid hfu
    have hbo2 : ∀ o', Blk (W2.alloc o') bo #[.slice a0 cs.length cap0] 33 := fun o' => HBOX2.out.alloc o'
    have HBO2 := hid hbo2
    have hn02 : n0 ≤ W2.heap.size := Nat.le_trans hn0 hsz2
    clear hfa hfl hfd hfu hbo2 hgo
    unfold Cmd.row CmdV.cells at hrd
    simp only [Array.toArray_toList, ho] at hrd
    unfold ftm
    rw [hcv]
    gi_wp2
    refine ⟨_, HBR.out, ?_⟩
    clear HBR
    gi_wp2_with (gi_at_builtin; go_loud (refine sti_append Try.E33 rfl rfl (hrow3 _) rfl hrd rfl rfl (by simp [Value.oneCell']) (by omega) (by simp; omega) ?_; intro v4 W4 hown4 hgrow4; obtain ⟨a4, c4, rfl, _⟩ := Sl.ofOwns hown4; have hS4 := (Chg.refl (fun k => (Value.slice a0 cs.length cap0).ownBlock = some k) _).grown hgrow4 (fun k hk _ => hk); have hb4 := (HBO2.out _).chg hS4 (fun e => HFA.out _ e rfl); have hb4c := hb4.cell; have hb4f := hb4.free; have HOWN4 := hid hown4; have HB4 := hid hb4; have HS4 := hid hS4; clear hown4 hgrow4 hS4 hb4))
    have h24 : Chg (fun j => j = bo ∨ (Value.slice a0 cs.length cap0).ownBlock = some j) W2 W4 := ((Chg.refl No W2).alloc o).to.trans (HS4.out.mono (fun _ _ e => .inr e)) |>.mono (fun _ _ e => e)
    have h25 := h24.setCell ⟨bo, 0, none⟩ (Value.slice a4 (cs.length + 1) c4) (fun _ => .inl rfl)
    have hL5 := h25.heap HL2.out (fun e => e.elim hlb (fun e => HFL.out l e rfl))
    have hK5 := h25.heap HK2.out (fun e => e.elim (fun e => by rw [e] at HK2; have := HBOX2.out; unfold Blk at this; rw [HK2.out] at this; cases this) (fun e => HFD.out D e rfl))
    have hB5 : Blk (W4.setCell ⟨bo, 0, none⟩ (Value.slice a4 (cs.length + 1) c4)) bo #[Value.slice a4 (cs.length + 1) c4] 33 := by simpa using HB4.out.set 0 (Value.slice a4 (cs.length + 1) c4)
    have hrow5 := ownsRow_chg HOWN4.out ((Chg.refl (fun j => j = bo) W4).setCell ⟨bo, 0, none⟩ (Value.slice a4 (cs.length + 1) c4) (fun _ => rfl)) (fun k hk e => owns_ne_blk HOWN4.out HB4.out (by decide) k hk e)
    have hu5 : ∀ d ∈ cs ++ [c], (W4.setCell ⟨bo, 0, none⟩ (Value.slice a4 (cs.length + 1) c4)).ownsRow n0 3 1 d.v.units d.us.length d.cells := fun d hd =>
      ownsRow_chg (HU2.out d hd) h25 (fun k hk e => e.elim (fun e => owns_ne_blk (HU2.out d hd) HBOX2.out (by decide) k hk e) (fun e => HFU.out d hd k hk e))
    obtain ⟨W5, hW5⟩ : ∃ W5, W4.setCell ⟨bo, 0, none⟩ (Value.slice a4 (cs.length + 1) c4) = W5 := ⟨_, rfl⟩
    rw [hW5] at h25 hL5 hK5 hB5 hrow5 hu5 ⊢
    have hr : ({ { r with state := LoopState.busy } with state := if (Option.isNone (none : Option Code)) = true then LoopState.ready else LoopState.done, pending := none } : Loop) = r := by
      obtain ⟨a1, a2, a3, a4, a5, a6, a7, a8⟩ := r
      simp only at hst hpe
      subst hst
      subst hpe
      rfl
    have hend := run_endRound (P := Try.prog) none hL5
    rw [hr] at hend
    have h56 : Chg (fun j => j = l) W5 (W5.putObj l (.loop r)) := Chg.putObj (Chg.refl _ W5) l _ (fun _ => rfl)
    have hl5 : l < W5.heap.size := (Array.getElem?_eq_some_iff.1 hL5).1
    refine ⟨_, _, hend, rfl, _, ⟨hB5.chg h56 (fun e => hlb e.symm), ⟨?_, ?_⟩, World.putObj_heap_same hl5, h56.heap hK5 (fun e => hlD e.symm)⟩, ?_⟩
    · have := ownsRow_chg hrow5 h56 (fun k hk e => owns_ne_obj hrow5 hL5 (fun _ _ _ e => by cases e) k hk e)
      simpa [List.flatMap_append, Cmd.row, CmdV.cells] using this
    · exact fun d hd => ownsRow_chg (hu5 d hd) h56 (fun k hk e => owns_ne_obj (hu5 d hd) hL5 (fun _ _ _ e => by cases e) k hk e)
    · exact ((HCH2.out.mono (fun _ _ e => .inl e)).trans (h25.mono (fun _ _ e => .inr e))).trans (h56.mono (fun _ _ e => .inl e))
  clear hcode
  obtain ⟨W0, hW0⟩ : ∃ W0, (((w.alloc (.cells #[] 28)).alloc (.cells #[.slice (some ⟨w.heap.size, 0, none⟩) 0 0] 33)).alloc (.cells #[.pointer pl] 29)).alloc (.cells #[.int .i64 tick] 3) = W0 := ⟨_, rfl⟩
  have hch0 : Chg No w W0 := by rw [← hW0]; exact ((((Chg.refl No w).alloc _).alloc _).alloc _).alloc _
  have hsz0 : W0.heap.size = w.heap.size + 4 := by rw [← hW0]; simp
  have hbo0 : Blk W0 (w.heap.size + 1) #[.slice (some ⟨w.heap.size, 0, none⟩) 0 0] 33 := by rw [← hW0]; exact ((Blk.newAt _ _ (by simp)).alloc _).alloc _
  have hbl0 : Blk W0 (w.heap.size + 1 + 1) #[.pointer pl] 29 := by rw [← hW0]; exact (Blk.newAt _ _ (by simp)).alloc _
  have hbt0 : Blk W0 (w.heap.size + 1 + 1 + 1) #[.int .i64 tick] 3 := by rw [← hW0]; exact Blk.newAt _ _ (by simp)
  have hrow0 : CmdsIs W0 w.heap.size (.slice (some ⟨w.heap.size, 0, none⟩) 0 0) [] := ⟨by
    have h1 := ownsRow_lit (w := w) (cs := []) (B := w.heap.size) (e := 28) (size := 12) 0 (Nat.le_refl _) (by decide) rfl
    rw [← hW0]
    exact ownsRow_chg h1 ((((Chg.refl No _).alloc _).alloc _).alloc _) (fun _ _ e => e), by simp⟩
  rw [hW0]
  clear hW0
  refine from_loop (L := L) hR hch0 hsz0 hbo0 hbl0 hbt0 hrow0 HKEYS.out HSRC.out HKS.out hlim ?_
  intro D v cs W' hD hK hbo hrow habs hch
  clear HKEYS HSRC HKS hR hbo0 hbl0 hbt0 hrow0 hch0
  have HROW := hid hrow
  have HABS := hid habs
  have HCH := hid hch
  have c5 := hbo.c 0 rfl
  clear hrow habs hch
  unfold ftm
  gi_wp2
  have h4 : Chg (fun j => j = D) W' (W'.putObj D (.deferred none)) := Chg.putObj (Chg.refl _ W') _ _ (fun _ => rfl)
  refine ⟨by simp, .inl ⟨_, _, rfl, run_takeDeferred hK, ?_⟩⟩
  refine ⟨_, results_tmp rfl _ _ _, v, cs, rfl, ⟨?_, ?_⟩, HABS.out, HCH.out.trans' h4 (fun j hj e => by omega)⟩
  · exact ownsRow_chg HROW.out.row h4 (fun k hk e => owns_ne_obj HROW.out.row hK (fun _ _ _ e => by cases e) k hk e)
  · exact fun d hd => ownsRow_chg (HROW.out.own d hd) h4 (fun k hk e => owns_ne_obj (HROW.out.own d hd) hK (fun _ _ _ e => by cases e) k hk e)

/-- from, of a log: all commands from a tick on, in order. -/
theorem from_any {w : World} {p m B : Nat} {first : Int} {L : List (Key × Cmd)} (h : LogIs w p m B first L) (tick : Int) (hlim : L.length * 112 ≤ 140737488355328) :
    Calls Try.prog 15 #[.pointer (some ⟨p, 0, none⟩), .int .i64 tick] w fun e w' => ∃ v cs, e = .returned v ∧ CmdsIs w' w.heap.size v cs ∧ cs.map (fun c => some c.abs) = (ksort ((L.map Prod.fst).filter (fun k => decide (tick ≤ k.t)))).map (fun q => (Px.get L q).map Cmd.abs) ∧ Chg No w w' := by
  have eg : ∀ args w, (callFunc 36 args).run Try.prog w = .ok (.enter 36 args) w := enters_of Try.func36 (by kernel_rfl) rfl
  have hlen : (ksort ((L.map Prod.fst).filter (fun k => decide (tick ≤ k.t)))).length = ((L.map Prod.fst).filter (fun k => decide (tick ≤ k.t))).length := by unfold ksort; rw [List.length_mergeSort]
  have hle : ((L.map Prod.fst).filter (fun k => decide (tick ≤ k.t))).length ≤ L.length := Nat.le_trans (List.length_filter_le _ _) (by simp)
  refine from_gen (some ⟨p, 0, none⟩) tick w _ L (fun W Bt hc hb => ?_) (fun _ => ⟨p, m, B, first, rfl, h⟩) (fun q hq => ?_) (by rw [hlen]; omega)
  · have hW := h.chgNo hc
    rw [hlen]
    exact keys_any W p m first L hW.blk hW.map 36 _ (fun k => decide (tick ≤ k.t)) eg (fun k W' hc' => from_closure k tick Bt W' ((hb.chgNo hc').c 0 rfl) ((hb.chgNo hc').lt)) (by omega)
  · exact (List.mem_filter.1 ((List.mergeSort_perm _ _).mem_iff.1 hq)).1
end Go.Proofs.Ytfpmgcpdjlkomaa
