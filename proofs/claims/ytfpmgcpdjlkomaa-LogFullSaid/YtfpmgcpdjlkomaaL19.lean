/- DeleteFunc over a log's map, and Drop, by contracts. -/
import Derived.Test.YtfpmgcpdjlkomaaL10
import Derived.Test.YtfpmgcpdjlkomaaPxDel
namespace Go.Proofs.Ytfpmgcpdjlkomaa
open Go.RowKit Go.Px Go.Proofs Go.Shelf
open Go.Maps (Keyed)
set_option maxHeartbeats 400000
set_option maxRecDepth 100000

theorem drop_closure (k : Key) (c : Cmd) (before : Int) (b : Nat) (w : World) (hb : Blk w b #[.int .i64 before] 3) : Calls Try.prog 29 #[k.val, c.val, .pointer (some ⟨b, 0, none⟩)] w fun e w' => e = .returned (.bool (decide (k.t < before))) ∧ Chg No w w' := by
  obtain ⟨a1, a2, a3⟩ := k
  obtain ⟨⟨t, p, s, k, ua, un, uc, x, y, ww, hh, id, cl, sz⟩, us⟩ := c
  unfold Cmd.val CmdV.val CmdV.cells Key.val
  have h1 := fun o o' => (((hb.alloc o).alloc o').c 0 rfl)
  go_enter Try.func29, Try.ntmps29
  go_wp2_with fail
  go_ret
  exact ⟨rfl, ((Chg.refl No w).alloc _).alloc _⟩

/-- What is left behind a part of the range. -/
def left (before : Int) (L M : List (Key × Cmd)) : List (Key × Cmd) := L.filter (fun x => decide (before ≤ x.1.t) || decide (x.1 ∈ M.map Prod.fst))

theorem left_start (before : Int) (L : List (Key × Cmd)) : left before L L = L :=
  List.filter_eq_self.2 (fun x hx => by
    have : x.1 ∈ L.map Prod.fst := List.mem_map.2 ⟨x, hx, rfl⟩
    simp [this])

theorem left_end (before : Int) (L : List (Key × Cmd)) : left before L [] = L.filter (fun x => decide (before ≤ x.1.t)) := by
  unfold left
  exact List.filter_congr (fun x _ => by simp)

theorem mem_del {M : List (Key × Cmd)} {k j : Key} : j ∈ (del M k).map Prod.fst ↔ j ∈ M.map Prod.fst ∧ j ≠ k := by
  constructor
  · intro h
    obtain ⟨x, hx, rfl⟩ := List.mem_map.1 h
    obtain ⟨h1, h2⟩ := List.mem_filter.1 hx
    exact ⟨List.mem_map.2 ⟨x, h1, rfl⟩, by simpa using h2⟩
  · rintro ⟨h, hn⟩
    obtain ⟨x, hx, rfl⟩ := List.mem_map.1 h
    exact List.mem_map.2 ⟨x, List.mem_filter.2 ⟨hx, by simpa using hn⟩, rfl⟩

theorem left_keep {before : Int} {L M : List (Key × Cmd)} {k : Key} (h : before ≤ k.t) : left before L (del M k) = left before L M := by
  refine List.filter_congr (fun x _ => ?_)
  by_cases e : x.1 = k
  · rw [e]; simp [h]
  · have : (x.1 ∈ (del M k).map Prod.fst) ↔ x.1 ∈ M.map Prod.fst := by rw [mem_del]; exact ⟨fun h => h.1, fun h => ⟨h, e⟩⟩
    rw [decide_eq_decide.2 this]

theorem left_drop {before : Int} {L M : List (Key × Cmd)} {k : Key} (h : k.t < before) : left before L (del M k) = del (left before L M) k := by
  unfold left del
  rw [List.filter_filter]
  refine List.filter_congr (fun x _ => ?_)
  by_cases e : x.1 = k
  · have h1 : ¬ before ≤ x.1.t := by rw [e]; omega
    have h2 : x.1 ∉ (del M k).map Prod.fst := fun h => (mem_del.1 h).2 e
    unfold del at h2
    simp [h1, h2, e]
    exact h
  · have : (x.1 ∈ (del M k).map Prod.fst) ↔ x.1 ∈ M.map Prod.fst := by rw [mem_del]; exact ⟨fun h => h.1, fun h => ⟨h, e⟩⟩
    unfold del at this
    apply Bool.eq_iff_iff.2
    simp only [Bool.or_eq_true, Bool.and_eq_true, decide_eq_true_eq, this]
    first | exact ⟨fun h => ⟨e, h⟩, fun h => h.2⟩ | exact ⟨fun h => ⟨h, e⟩, fun h => h.1⟩

theorem del_del (M : List (Key × Cmd)) (k : Key) : del (del M k) k = del M k := by
  unfold del
  rw [List.filter_filter]
  exact List.filter_congr (fun x _ => by simp)

set_option maxHeartbeats 2000000 in
theorem delete_any {w : World} {m bt : Nat} {before : Int} {L : List (Key × Cmd)} (hm : IsMap Try.prog 40 Key.val Cmd.val w m L) (hbt : Blk w bt #[.int .i64 before] 3) :
    Calls Try.prog 28 #[.map (some m), .func (.func 29) #[] #[.pointer (some ⟨bt, 0, none⟩)]] w fun e w' => e = .returned (.tuple #[]) ∧ IsMap Try.prog 40 Key.val Cmd.val w' m (L.filter (fun x => decide (before ≤ x.1.t))) ∧ Chg (fun j => j = m) w w' := by
  have hmlt := hm.lt
  go_enter Try.func28, Try.ntmps28
  go_wp2_with (at_range; refine st_range hm Try.u59 rfl rfl rfl ?_; intro w1 hit hch hsz)
  go_frame
  obtain ⟨r, hr⟩ : ∃ r, r = w.heap.size := ⟨_, rfl⟩
  rw [← hr] at hit ⊢
  have hbt1 := hbt.chgNo hch
  have HR := hid hr
  have HBT := hid hbt1
  have hch' := hch.to (S := fun j => j = m)
  clear hr hsz hbt hbt1 hch hm
  go_loopw [] (fun wr => ∃ M, IsIter Try.prog 40 Key.val Cmd.val wr m r (left before L M) M ∧ Blk wr bt #[.int .i64 before] 3 ∧ Chg (fun j => j = m) w wr) (fun wr => wr.rangeLeft m r)
  case atStart => exact ⟨L, by rw [left_start]; exact hit, HBT.out, hch'⟩
  case round =>
    obtain ⟨M, hit, hbt, hch⟩ := hrel
    go_wp2_with (at_next; refine st_next hit Key.inj rfl rfl rfl ?_ ?_; intro hM; refine Hid.out ?_; rotate_left; rintro pp w2 hp hit2 hch2 hsz2 hen; refine Hid.out ?_; rotate_left)
    · refine hid ?_
      go_wp2_with fail
      go_end0
      refine ⟨rfl, ?_, hch⟩
      rw [← left_end, ← hM]
      exact hit.map
    · refine hid ?_
      obtain ⟨⟨k1, k2, k3⟩, c⟩ := pp
      obtain ⟨⟨t, p, s, k, ua, un, uc, x, y, ww, hh, id, cl, sz⟩, us⟩ := c
      have hlink := hch.trans' (hch2 (fun j => j = r) rfl) (T := fun j => j = r) (fun j hj e => by have := HR.out; omega)
      have hne : r ≠ m := by intro e; obtain ⟨_, _, h1⟩ := hit.map.obj; obtain ⟨_, _, _, _, h2⟩ := hit.iter; rw [e, h1] at h2; cases h2
      have hrb : r ≠ bt := by intro e; obtain ⟨_, _, _, _, h2⟩ := hit.iter; unfold Blk at hbt; rw [← e, h2] at hbt; cases hbt
      have hbt2 := hbt.chg (hch2 (fun j => j = r) rfl) (fun e => hrb e.symm)
      have hgood := hit.map.good
      simp only [Key.val, Cmd.val, CmdV.val, CmdV.cells] at hen ⊢
      have HIT0 := hid hit
      have HIT2 := hid hit2
      have HBT2 := hid hbt2
      have HLK := hid hlink
      have HSZ := hid hsz2
      have HP := hid hp
      clear hit hit2 hbt hbt2 hlink hsz2 hp hch hch2 hgood hrb hne
      have k0 := fun o => ((Blk.new w2 #[.int .i64 k1, .int .i64 k2, .int .i64 k3] 40).alloc o).cell
      go_wp2_with fail
      obtain ⟨bk, hbk⟩ : ∃ bk, w2.heap.size = bk := ⟨_, rfl⟩
      refine calls_world (fun w3 => IsIter Try.prog 40 Key.val Cmd.val w3 m r (left before L M) (del M ⟨k1, k2, k3⟩) ∧ Blk w3 bt #[.int .i64 before] 3 ∧ Blk w3 bk #[.int .i64 k1, .int .i64 k2, .int .i64 k3] 40 ∧ Chg (fun j => j = m) w w3)
        ⟨HIT2.out.chg (((Chg.refl No w2).alloc _).alloc _) (fun e => e) (fun e => e), (HBT2.out.alloc _).alloc _, (Blk.newAt _ _ hbk).alloc _, (HLK.out.alloc _).alloc _⟩ ?_
      rw [hbk]
      clear HIT2 HBT2 HLK HSZ hen k0 hbk
      rintro w3 ⟨hit3, hbt3, hk3, hch3⟩
      change Calls Try.prog 29 #[Key.val ⟨k1, k2, k3⟩, Cmd.val ⟨⟨t, p, s, k, ua, un, uc, x, y, ww, hh, id, cl, sz⟩, us⟩, .pointer (some ⟨bt, 0, none⟩)] w3 _
      refine (drop_closure ⟨k1, k2, k3⟩ _ before bt w3 hbt3).mono ?_
      rintro e w4 ⟨rfl, hch4⟩
      have hit4 := hit3.chg hch4 (fun e => e) (fun e => e)
      have hbt4 := hbt3.chgNo hch4
      have hk4 := (hk3.chgNo hch4).cell
      have hch5 := hch3.trans hch4.to
      have hbm : bt ≠ m := by
        intro e
        obtain ⟨_, _, h1⟩ := hit4.map.obj
        unfold Blk at hbt4
        rw [e, h1] at hbt4
        cases hbt4
      obtain ⟨l, hl⟩ : ∃ l, keyOf Try.prog 40 (Key.val ⟨k1, k2, k3⟩) = some l := HIT0.out.map.good _ (HIT0.out.sub.mem HP.out)
      have HIT4 := hid hit4
      have HBT4 := hid hbt4
      have HC5 := hid hch5
      have HL := hid hl
      have HBM := hid hbm
      have hml : (del M (⟨k1, k2, k3⟩ : Key)).length < M.length := by
        have := del_length (HIT0.out.nodupM) HP.out
        dsimp only at this
        omega
      clear hit3 hbt3 hk3 hch3 hch4 hit4 hbt4 hch5 hl hbm
      by_cases hlt : k1 < before
      · have hd : decide (k1 < before) = true := by simp [hlt]
        simp only [hd]
        obtain ⟨w5, hrun, hit5, hch6, _⟩ := HIT4.out.delete Try.keyed Key.inj Try.u59 (⟨k1, k2, k3⟩ : Key) HL.out (ty := 0)
        simp only [Key.val] at hrun
        have h5 : Chg (fun j => j = m) w4 w5 := hch6 _ rfl
        have HIT5 := hid hit5
        have HBT5 := hid (HBT4.out.chg h5 HBM.out)
        have HC6 := hid (HC5.out.trans h5)
        clear hit5 hch6 h5
        go_wp2_with fail
        refine ⟨⟨del M ⟨k1, k2, k3⟩, ?_, HBT5.out, HC6.out⟩, ?_⟩
        · rw [left_drop (k := ⟨k1, k2, k3⟩) hlt]
          have := HIT5.out
          rw [del_del] at this
          exact this
        · rw [HIT5.out.left, HIT0.out.left, del_del]
          exact hml
      · have hd : decide (k1 < before) = false := by simp [hlt]
        simp only [hd]
        go_wp2_with fail
        refine ⟨⟨del M ⟨k1, k2, k3⟩, ?_, HBT4.out, HC5.out⟩, ?_⟩
        · rw [left_keep (k := ⟨k1, k2, k3⟩) (show before ≤ k1 by omega)]
          exact HIT4.out
        · rw [HIT4.out.left, HIT0.out.left]
          exact hml
set_option maxHeartbeats 2000000 in
theorem drop_any {w : World} {p m B : Nat} {first : Int} {L : List (Key × Cmd)} (h : LogIs w p m B first L) (before : Int) (hlim : L.length * 112 ≤ 140737488355328) :
    Calls Try.prog 17 #[.pointer (some ⟨p, 0, none⟩), .int .i64 before] w fun e w' => (before ≤ first → e = .returned (.int .i64 0) ∧ Chg No w w') ∧
      (first < before → e = .returned (.int .i64 ((L.length : Int) - ((L.filter (fun x => decide (before ≤ x.1.t))).length : Int))) ∧ LogIs w' p m B before (L.filter (fun x => decide (before ≤ x.1.t))) ∧ Chg (fun j => j = p ∨ j = m) w w') := by
  go_enter Try.func17, Try.ntmps17
  go_wp2_with fail
  obtain ⟨bt, hbt⟩ : ∃ bt, w.heap.size = bt := ⟨_, rfl⟩
  have hch0 : Chg No w ((w.alloc (.cells #[.int .i64 before] 3)).drew) := ((Chg.refl No w).alloc _).drew
  have hb0 : Blk ((w.alloc (.cells #[.int .i64 before] 3)).drew) bt #[.int .i64 before] 3 := Blk.newAt (b := bt) _ _ hbt
  have hpb : p < bt := by rw [← hbt]; exact h.blk.lt
  have hmb : m < bt := by rw [← hbt]; exact h.map.lt
  rw [hbt]
  obtain ⟨w0, hw0⟩ : ∃ w0, ((w.alloc (.cells #[.int .i64 before] 3)).drew) = w0 := ⟨_, rfl⟩
  refine wp_plan (fun W => Chg No w0 W) [(false, 0), (false, 1), (false, 2), (false, 3), (true, 4), (false, 5), (false, 6), (false, 7), (false, 8), (false, 9), (false, 10)] (by kernel_rfl) (by kernel_rfl) (by kernel_rfl) (fun d _ _ _ _ h => by cases d <;> exact h) (by rw [← hw0]; exact Chg.refl No _) ?_
  rw [hw0] at hb0 hch0 ⊢
  clear hw0 hbt
  have hlog0 := h.chgNo hch0
  have hpm := h.pm
  have HLOG0 := hid hlog0
  have HCH0 := hid hch0
  have HB0 := hid hb0
  clear h hlog0 hch0 hb0
  refine plan_step rfl rfl (fun K hK => ?_)
  go_wp2_with fail
  refine hK _ _ (Chg.refl No w0) ?_
  clear hK
  refine plan_step rfl rfl (fun K hK => ?_)
  go_wp2_with fail
  refine (is_blk HLOG0.out.blk).mono ?_
  rintro e w' ⟨rfl, rfl⟩
  refine hK _ _ (Chg.refl No w0) ?_
  clear hK
  refine plan_step rfl rfl (fun K hK => ?_)
  go_wp2_with fail
  refine hK _ _ (Chg.refl No w0) ?_
  clear hK
  refine plan_step rfl rfl (fun K hK => ?_)
  go_wp2_with fail
  refine hK _ _ (Chg.refl No w0) ?_
  clear hK
  refine free_load (v := .pointer (some ⟨bt, 0, none⟩)) (u := .int .i64 before) rfl rfl (fun W hS => by have := (HB0.out.chgNo hS).c 0 rfl; go_simp) ?_
  go_frame
  have c0 := HLOG0.out.blk.cell
  have cb := HB0.out.cell
  have fb := HB0.out.free
  refine plan_step rfl rfl (fun K hK => ?_)
  go_wp2_with fail
  refine hK _ _ (Chg.refl No w0) ?_
  clear hK
  refine plan_step rfl rfl (fun K hK => ?_)
  go_wp2_with fail
  refine hK _ _ (Chg.refl No w0) ?_
  clear hK
  refine plan_step rfl rfl (fun K hK => ?_)
  go_wp2_with fail
  refine hK _ _ (Chg.refl No w0) ?_
  clear hK
  refine plan_step rfl rfl (fun K hK => ?_)
  go_wp2_with fail
  refine hK _ _ (Chg.refl No w0) ?_
  clear hK
  refine plan_step rfl rfl (fun K hK => ?_)
  go_wp2_with fail
  refine hK _ _ (Chg.refl No w0) ?_
  clear hK
  refine plan_step rfl rfl (fun K hK => ?_)
  go_wp2_with fail
  refine hK _ _ (Chg.refl No w0) ?_
  clear hK
  refine plan_done ?_
  by_cases hle : before ≤ first
  · go_wp2_with fail
    go_ret
    exact ⟨fun _ => ⟨rfl, HCH0.out⟩, fun e => by omega⟩
  · have fp := HLOG0.out.blk.free
    have hS1 : Chg (fun j => j = p) w0 (w0.setCell ⟨p, 0, none⟩ (.int .i64 before)) := (Chg.refl _ w0).setCell _ _ (fun _ => rfl)
    have hm1 := HLOG0.out.map.chg hS1 (fun e => hpm e.symm)
    have hblk1 : Blk (w0.setCell ⟨p, 0, none⟩ (.int .i64 before)) p #[.int .i64 before, .map (some m)] 61 := by simpa using HLOG0.out.blk.set 0 (.int .i64 before)
    have hlen := hm1.len Try.u59 (ty := 3)
    have hbt1 := HB0.out.chg hS1 (fun e => by omega)
    have c1 := hblk1.cell
    have hmf : ∀ (fn : Fn) (first cap : Array Value) (w : World), (Instr.makeFunc fn first cap).run Try.prog w = .ok (.func fn first cap) w := fun _ _ _ _ => rfl
    have HS1 := hid hS1
    have HM1 := hid hm1
    have HBLK1 := hid hblk1
    have HBT1 := hid hbt1
    clear hS1 hm1 hblk1 hbt1
    go_wp2_with fail
    refine (delete_any HM1.out HBT1.out).mono ?_
    rintro e w2 ⟨rfl, hm2, hch2⟩
    have hlen2 := hm2.len Try.u59 (ty := 3)
    have c2 := (HBLK1.out.chg hch2 (fun e => hpm e)).cell
    have HM2 := hid hm2
    have HCH2 := hid hch2
    clear hm2 hch2 hlen c1 c0 cb fb
    go_wp2_with fail
    go_ret
    have h02 : Chg (fun j => j = p ∨ j = m) w0 w2 := (HS1.out.mono (fun _ _ e => .inl e)).trans (HCH2.out.mono (fun _ _ e => .inr e))
    refine ⟨fun e => by omega, fun _ => ⟨?_, ⟨HBLK1.out.chg HCH2.out (fun e => hpm e), HM2.out, ?_, ?_, ?_⟩, HCH0.out.to.trans h02⟩⟩
    · have hfl := List.length_filter_le (fun x : Key × Cmd => decide (before ≤ x.1.t)) L
      have hw : wrap64 ((L.length : Int) - ((L.filter (fun x => decide (before ≤ x.1.t))).length : Int)) = (L.length : Int) - ((L.filter (fun x => decide (before ≤ x.1.t))).length : Int) := by unfold wrap64; omega
      show Ending.returned (.int .i64 (wrap64 _)) = _
      rw [hw]
    · exact fun x hx => HLOG0.out.key x (List.mem_filter.1 hx).1
    · intro x hx
      have hx' := (List.mem_filter.1 hx).1
      exact ownsRow_chg (HLOG0.out.own x hx') h02 (fun k hk e => e.elim (fun e => owns_ne_blk (HLOG0.out.own x hx') HLOG0.out.blk (by decide) k hk e) (fun e => HLOG0.out.um hx' k hk e))
    · exact fun x hx => HLOG0.out.lim x (List.mem_filter.1 hx).1
end Go.Proofs.Ytfpmgcpdjlkomaa
