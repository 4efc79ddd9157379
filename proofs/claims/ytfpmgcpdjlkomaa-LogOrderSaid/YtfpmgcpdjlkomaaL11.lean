/- LogOwns answers true, for every command within the reach. -/
import Derived.Test.YtfpmgcpdjlkomaaL10
namespace Go.Proofs.Ytfpmgcpdjlkomaa
open Go.RowKit Go.Px Go.Proofs Go.Shelf
open Go.Maps (Keyed)
set_option maxHeartbeats 400000
set_option maxRecDepth 100000

theorem LogIs.nilB {w : World} {p m B : Nat} {first : Int} (h : LogIs w p m B first []) (B' : Nat) : LogIs w p m B' first [] :=
  ⟨h.blk, h.map, by simp, by simp, by simp⟩

theorem Cmd.ok.chg {w w' : World} {c : Cmd} (h : c.ok w) (hc : Chg No w w') : c.ok w' := Sl.chg h hc (fun _ _ _ _ e => e)

theorem one_cmds {k : Key} {c : Cmd} {t : Int} {cs : List Cmd} (ht : k.t = t) (h : cs.map (fun c => some c.abs) = (ksort (((put [] k c).map Prod.fst).filter (fun k => k.t == t))).map (fun q => (get (put [] k c) q).map Cmd.abs)) : ∃ d, cs = [d] ∧ d.abs = c.abs := by
  subst ht
  have h1 : ksort ((([(k, c)] : List (Key × Cmd)).map Prod.fst).filter (fun k' => k'.t == k.t)) = [k] := by simp [ksort]
  have h2 : put ([] : List (Key × Cmd)) k c = [(k, c)] := by simp [put, hask]
  rw [h2, h1] at h
  simp only [List.map_cons, List.map_nil] at h
  match cs, h with
  | [d], h => exact ⟨d, rfl, by simpa [Px.get] using h⟩
  | [], h => simp at h
  | _ :: _ :: _, h => simp at h

/-- A struct loaded from an owned row. -/
theorem load_row {W : World} {B e size n cap g : Nat} {xs : List Value} {ty : TypeId} {fs : Array Field} (h : W.ownsRow B e size (.slice (some ⟨g, 0, none⟩) n cap) n xs) (o : Nat) (ys : List Value) (hy : ∀ j v, ys[j]? = some v → xs[o + j]? = some v) (hu : Try.prog.underlying ty = some (.struct fs)) (hi : (Try.prog.info? ty).map (·.size) = some ys.length) :
    (Instr.loadAt ty (.pointer (some ⟨g, o, none⟩))).run Try.prog W = .ok (.agg ys.toArray) W :=
  run_loadAt_mid (P := Try.prog) W g o ty ys (.struct fs) (fun j v hv => by
    have h1 := hy j v hv
    rw [h.cellAt (o + j) (by rw [← h.1]; exact (List.getElem?_eq_some_iff.1 h1).1), h1]) hu rfl hi

/-- A forced operation that only looks. -/
theorem plan_value {P : Program} {ops : Array Oper} {Q : Exit → Act → World → Prop} {S : World → Prop} {i : Nat} {o : Oper} {v : Value} {rest : List (Bool × Nat)} {a : Act} {w : World} (hi : ops[i]? = some o) (hg : Region.wanted o (yielded ops a.tmps) = true) (hrun : (execOp a.eval o).run P w = .ok (.value v) w) (hS : S w)
    (h : wpPlan P ops Q S rest (a.put o.dst v) w) : wpPlan P ops Q S ((false, i) :: rest) a w := by
  refine plan_step hi hg (fun K hK => ?_)
  unfold Oper.wp
  rw [hrun]
  exact hK _ _ hS h

theorem exec_load {P : Program} {d : Option Tmp} {x : Operand} {t ty : TypeId} {pos : String} {after : Array Edge} {g : Option (Nat × Bool)} {a : Act} {v u : Value} {w : World} (hx : a.eval x = v) (hrun : (Instr.loadAt ty v).run P w = .ok u w) :
    (execOp a.eval ⟨d, .load ty x, t, pos, after, g⟩).run P w = .ok (.value u) w := by simp [execOp, hx, hrun]

set_option maxHeartbeats 2000000 in
theorem owns_any (c : Cmd) (w : World) (hok : c.ok w) (hk : c.key.wf) (hlim : c.us.length * 8 ≤ 140737488355328) : Calls Try.prog 3 #[c.val] w fun e w' => e = .returned (.bool true) ∧ Chg No w w' := by
  have HC := hid (show c = c from rfl)
  obtain ⟨⟨t, pl, s, k, ua, un, uc, x, y, ww, hh, id, cl, sz⟩, us⟩ := c
  obtain ⟨n, hn⟩ : ∃ n, us.length = n := ⟨_, rfl⟩
  have hun : un = n := by obtain ⟨_, _, e, _⟩ := hok; simp only [CmdV.units, Value.slice.injEq] at e; rw [← hn]; exact e.2.1
  subst hun
  simp only [hn] at hlim
  have sl : Sl w (.slice ua un uc) un (us.map (Value.int .i64)) := by
    unfold Cmd.ok CmdV.units Cmd.cells at hok
    simp only [hn] at hok
    exact hok
  unfold Cmd.val CmdV.val CmdV.cells
  have SL := hid sl
  have HN := hid hn
  have HK := hid hk
  clear hok hn sl hk
  go_enter Try.func3, Try.ntmps3
  go_wp2_with fail
  refine (new_any t _).mono ?_
  rintro e w1 ⟨rfl, hlog, hch⟩
  obtain ⟨p, hp⟩ : ∃ p, (w.alloc (.cells #[.int .i64 t, .int .i64 pl, .int .i64 s, .int .i64 k, .slice ua un uc, .int .i64 x, .int .i64 y, .int .i64 ww, .int .i64 hh, .int .i64 id, .int .i64 cl, .int .i64 sz] 28)).heap.size + 1 = p := ⟨_, rfl⟩
  obtain ⟨m, hm⟩ : ∃ m, (w.alloc (.cells #[.int .i64 t, .int .i64 pl, .int .i64 s, .int .i64 k, .slice ua un uc, .int .i64 x, .int .i64 y, .int .i64 ww, .int .i64 hh, .int .i64 id, .int .i64 cl, .int .i64 sz] 28)).heap.size = m := ⟨_, rfl⟩
  rw [hp, hm] at hlog
  rw [hp]
  have hch1 : Chg No w w1 := ((Chg.refl No w).alloc _).trans hch
  have hb1 : Blk w1 w.heap.size #[.int .i64 t, .int .i64 pl, .int .i64 s, .int .i64 k, .slice ua un uc, .int .i64 x, .int .i64 y, .int .i64 ww, .int .i64 hh, .int .i64 id, .int .i64 cl, .int .i64 sz] 28 := (Blk.new _ _ _).chgNo hch
  have hm0 : w.heap.size < m := by rw [← hm]; simp
  have hp0 : w.heap.size < p := by rw [← hp]; simp; omega
  have hbp : w1.heap.size > m := hlog.map.lt
  have hbp2 : w1.heap.size > p := hlog.blk.lt
  have hz1 := hch1.size
  obtain ⟨b, hb⟩ : ∃ b, w.heap.size = b := ⟨_, rfl⟩
  obtain ⟨q, hq⟩ : ∃ q, w1.heap.size = q := ⟨_, rfl⟩
  rw [hb] at hb1 hm0 hp0 hz1
  rw [hq] at hz1 hbp hbp2
  have HLOG := hid hlog
  have HCH1 := hid hch1
  have HB1 := hid hb1
  have HSZ := hid (And.intro hm0 (And.intro hp0 (And.intro hbp (And.intro hbp2 hz1))))
  have hcell := hb1.cell
  have HB := hid hb
  have HQ := hid hq
  clear hlog hch hp hm hb1 hm0 hp0 hz1 hch1 hbp hbp2
  obtain ⟨cs1, hcs1⟩ : ∃ cs1, #[Value.int .i64 t, .int .i64 pl, .int .i64 s, .int .i64 k, .slice ua un uc, .int .i64 x, .int .i64 y, .int .i64 ww, .int .i64 hh, .int .i64 id, .int .i64 cl, .int .i64 sz] = cs1 := ⟨_, rfl⟩
  have hB1 := HB1.out
  rw [hcs1] at hB1
  have hc3 := fun o o' => by
    have := ((hB1.alloc o).alloc o').c 4 (by rw [← hcs1]; rfl)
    exact this
  have hown0 : (((w1.alloc (.cells cs1 28)).alloc (.cells #[] 3))).ownsRow (q + 1) 3 1 (.slice (some ⟨q + 1, 0, none⟩) 0 0) 0 [] := by
    have := ownsRow_lit (w := w1.alloc (.cells cs1 28)) (cs := []) (B := q + 1) (e := 3) (size := 1) 0 (by simp; have := HQ.out; omega) (by decide) rfl
    simpa [HQ.out] using this
  have hsl0 : Sl ((w1.alloc (.cells cs1 28)).alloc (.cells #[] 3)) (.slice ua un uc) un (us.map (Value.int .i64)) := SL.out.chg ((HCH1.out.alloc _).alloc _) (fun _ _ _ _ e => e)
  have hbn0 : Blk ((w1.alloc (.cells cs1 28)).alloc (.cells #[] 3)) q cs1 28 := (Blk.newAt _ _ HQ.out).alloc _
  have hbb0 : Blk ((w1.alloc (.cells cs1 28)).alloc (.cells #[] 3)) b cs1 28 := (hB1.alloc _).alloc _
  have hch0 : Chg No w1 ((w1.alloc (.cells cs1 28)).alloc (.cells #[] 3)) := ((Chg.refl No w1).alloc _).alloc _
  rw [← hcs1] at hown0 hsl0 hbn0 hbb0 hch0
  clear hB1 hcs1
  have hqb : q ≠ b := by have := HSZ.out; omega
  have HBN0 := hid hbn0
  have HBB0 := hid hbb0
  have HCH0 := hid hch0
  clear hbn0 hbb0 hch0
  go_wp2_with (at_builtin; go_loud (refine st_append_sl Try.E22 rfl rfl hown0 rfl hsl0 rfl (by simp [HN.out]) (by simp [Value.oneCell']) (by omega) (by simp; have := HQ.out; omega) ?_; intro v4 w4 hown4 hgrow4; obtain ⟨a4, c4, rfl, hsl4⟩ := Sl.ofOwns hown4; have hS4 := (Chg.refl (fun j => j = q + 1) _).grown hgrow4 (fun j hj _ => by simp [Value.ownBlock] at hj; exact hj.symm); have hbn4 := HBN0.out.chg hS4 (by omega); have hbn4c := hbn4.cell; have hbn4f := hbn4.free; have HBB4 := hid (HBB0.out.chg hS4 (by have := HSZ.out; omega)); have HCH4 := hid ((HCH0.out.to (S := fun j => j = q + 1)).trans hS4); have HOWN4 := hid hown4; have HSL4 := hid hsl4; have HBN4 := hid hbn4; clear hsl4 hown4 hS4 hbn4 hgrow4))
  refine calls_world (fun w5 => Blk w5 q #[.int .i64 t, .int .i64 pl, .int .i64 s, .int .i64 k, .slice a4 un c4, .int .i64 x, .int .i64 y, .int .i64 ww, .int .i64 hh, .int .i64 id, .int .i64 cl, .int .i64 sz] 28 ∧ Blk w5 b #[.int .i64 t, .int .i64 pl, .int .i64 s, .int .i64 k, .slice ua un uc, .int .i64 x, .int .i64 y, .int .i64 ww, .int .i64 hh, .int .i64 id, .int .i64 cl, .int .i64 sz] 28 ∧ LogIs w5 p m m t [] ∧ w5.ownsRow (q + 1) 3 1 (.slice a4 un c4) un (us.map (Value.int .i64)) ∧ Chg No w w5)
    ⟨?_, ?_, ?_, ?_, ?_⟩ ?_
  · have := HBN4.out.set 4 (.slice a4 un c4)
    simpa using this
  · exact HBB4.out.setOther _ _ (by omega)
  · have hz := HSZ.out
    exact HLOG.out.chg ((HCH4.out.mono (T := fun j => j = q + 1 ∨ j = q) (fun _ _ e => .inl e)).setCell _ _ (fun _ => .inr rfl)) (by omega) (by omega) (by simp)
  · have := HOWN4.out
    simp only [Nat.zero_add, List.nil_append] at this
    exact ownsRow_chg this ((Chg.refl (fun j => j = q) _).setCell _ _ (fun _ => rfl)) (fun k hk e => by have := (HOWN4.out.lt k (by rw [Nat.zero_add]; exact hk)).1; omega)
  · have hz := HQ.out
    exact HCH1.out.trans' ((HCH4.out.mono (T := fun j => j = q + 1 ∨ j = q) (fun _ _ e => .inl e)).setCell _ _ (fun _ => .inr rfl)) (fun j hj e => by have := HCH1.out.size; have := HSZ.out; have := HB.out; omega)
  clear hc3 hbn4c hbn4f hcell
  clear HBN4 HOWN4 HSL4 HBB4 HCH4 HBN0 HBB0 HCH0 HB1 HLOG
  rintro w5 ⟨hq5, hb5, hlog5, hown5, hch5⟩
  have hmw : m ≤ w5.heap.size := Nat.le_of_lt hlog5.map.lt
  have hun4 : ∀ j, (Value.slice a4 un c4).ownBlock = some j → j < w5.heap.size ∧ q + 1 ≤ j := fun j hj => ⟨(hown5.lt j hj).2, (hown5.lt j hj).1⟩
  have HADD := hid (add_new (hlog5.nilB w5.heap.size) ⟨⟨t, pl, s, k, a4, un, c4, x, y, ww, hh, id, cl, sz⟩, us⟩ (by simp) HK.out rfl (by simp) (Nat.le_refl _) (by simp only [CmdV.units, Cmd.cells, HN.out]; exact Sl.ofOwns hown5) (by simp only [HN.out]; exact hlim))
  have hwr := HADD.out
  unfold Cmd.val CmdV.val CmdV.cells at hwr
  refine hwr.mono ?_
  clear hwr HADD
  rintro e w6 ⟨rfl, hch6, c', hus, hv, hlog6⟩
  have HUS := hid hus
  have HV := hid hv
  have hq6 := hq5.chg hch6 (by have := HSZ.out; omega)
  have hb6 := hb5.chg hch6 (by have := HSZ.out; omega)
  have hown6 := ownsRow_chg hown5 hch6 (fun j hj e => by have := (hun4 j hj).2; have := HSZ.out; omega)
  have hw6 : Chg No w w6 := hch5.trans' hch6 (fun j hj e => by have := HSZ.out; have := HB.out; omega)
  have hq6c := hq6.cell
  have HQ6 := hid hq6
  have HB6 := hid hb6
  have HLOG6 := hid hlog6
  have HOWN6 := hid hown6
  have HW6 := hid hw6
  have HUN4 := hid hun4
  have hz6 : w5.heap.size ≤ w6.heap.size := hch6.size
  clear hus hv hq5 hb5 hlog5 hown5 hch5 hq6 hb6 hlog6 hown6 hw6 hch6 hun4
  go_wp2_with fail
  go_loopw [5] (fun i wr => ∃ (j : Nat) (xs : List Value), j ≤ un ∧ i = .int .i64 j ∧ wr.ownsRow (q + 1) 3 1 (.slice a4 un c4) un xs ∧ Chg (fun j => (Value.slice a4 un c4).ownBlock = some j) w6 wr) (fun i _ => un - (intOf i).toNat)
  case atStart => exact ⟨0, _, Nat.zero_le _, rfl, HOWN6.out, Chg.refl _ _⟩
  case round =>
    obtain ⟨j, xs, hj, rfl, hown, hch⟩ := hrel
    have hqr := HQ6.out.chg hch (fun e => by have := HUN4.out q e; omega)
    have hqrc := hqr.cell
    by_cases hlt : j < un
    · have hne : ∃ g, a4 = some ⟨g, 0, none⟩ := by
        rcases hown.2 with ⟨e, h0⟩ | ⟨g, _, _, e, _⟩
        · simp only [Value.slice.injEq] at e; omega
        · simp only [Value.slice.injEq] at e; exact ⟨g, e.1⟩
      obtain ⟨g, rfl⟩ := hne
      have hlt' : (j : Int) < (un : Int) := by omega
      obtain ⟨hst, hgr⟩ := hown.stored j (.int .i64 (-7))
      have hcj : ∃ u, wr.cell? ⟨g, j, none⟩ = some u := ⟨_, (hown.cellAt j (by omega)).trans (List.getElem?_eq_getElem (by rw [hown.1]; omega))⟩
      obtain ⟨u, hcj⟩ := hcj
      have hfj := hown.frozenAt j
      have HST := hid hst
      have HGR := hid hgr
      clear hst hgr hown
      go_wp2_with fail
      exact ⟨⟨j + 1, _, by omega, by go_num, HST.out, hch.grown HGR.out (fun j e _ => by rw [← e]; rfl)⟩, by simp [intOf]; omega⟩
    · have hw6r : Chg No w wr := HW6.out.trans' hch (fun j hj e => by have := (HUN4.out j e).2; have := HSZ.out; have := HB.out; omega)
      have hlogr := HLOG6.out.chg hch (by intro e; have := (HUN4.out _ e).2; have := HSZ.out; omega) (by intro e; have := (HUN4.out _ e).2; have := HSZ.out; omega) (by
        intro z hz kk hk e
        have := ((HLOG6.out.own z hz).lt kk hk).1
        have := (HUN4.out _ e).1
        omega)
      have hbr := HB6.out.chg hch (fun e => by have := (HUN4.out _ e).2; have := HSZ.out; omega)
      have hbrc := hbr.cell
      clear HQ6 HB6 HLOG6 HOWN6 HW6 hch hown hqr
      have HBR := hid hbr
      have HLOGR := hid hlogr
      have HWR := hid hw6r
      clear hbr hlogr hw6r
      go_wp2_with fail
      have hfar : ∀ j, wr.heap.size ≤ j → b < j ∧ w.heap.size ≤ j ∧ p ≠ j ∧ m ≠ j ∧ ∀ z ∈ put [] (Cmd.mk ⟨t, pl, s, k, a4, un, c4, x, y, ww, hh, id, cl, sz⟩ us).key c', ∀ kk, z.2.v.units.ownBlock = some kk → kk ≠ j := fun j hj =>
        ⟨by have := HBR.out.lt; omega, by have := HWR.out.size; omega, by have := HLOGR.out.blk.lt; omega, by have := HLOGR.out.map.lt; omega, fun z hz kk hk => by have := ((HLOGR.out.own z hz).lt kk hk).2; omega⟩
      have HFAR := hid hfar
      clear hfar
      refine (at_any HLOGR.out t (by simp [put, hask])).mono ?_
      rintro e w8 ⟨v8, cs8, rfl, hcs8, hmap8, hlog8, hch8⟩
      obtain ⟨d8, rfl, habs8⟩ := one_cmds rfl hmap8
      obtain ⟨g8, cap8, rfl⟩ : ∃ g cap, v8 = .slice (some ⟨g, 0, none⟩) 1 cap := by
        rcases hcs8.row.2 with ⟨_, h0⟩ | ⟨g, cap, _, e, _⟩
        · simp at h0
        · exact ⟨g, cap, e⟩
      have hb8 := HBR.out.chgNo hch8
      have hw8 : Chg No w w8 := HWR.out.trans hch8
      have hca : c'.abs = (Cmd.mk ⟨t, pl, s, k, ua, un, uc, x, y, ww, hh, id, cl, sz⟩ us).abs := by
        have h1 := HV.out
        have h2 := HUS.out
        obtain ⟨v', us'⟩ := c'
        simp only at h1 h2
        rw [h2]
        unfold Cmd.abs
        rw [h1]
      have habs := habs8.trans hca
      have HCA := hid hca
      have HABS := hid habs
      clear hca
      have HB8 := hid hb8
      have HW8 := hid hw8
      have HCS8 := hid hcs8
      have HLOG8 := hid hlog8
      have hsz8 := hch8.size
      clear hmap8 habs8 hcs8 hlog8 hch8 hb8 hw8 habs HV HUS HLOGR HBR HWR hbrc hqrc
      go_wp2_with fail
      refine wp_plan (fun W => Chg No w8 W) [(false, 0), (false, 1), (false, 2), (false, 3), (true, 4), (true, 5), (true, 6), (false, 7), (false, 8), (false, 9), (false, 10)] (by kernel_rfl) (by kernel_rfl) (by kernel_rfl) (fun d _ _ _ _ h => by cases d <;> exact h) (Chg.refl _ _).drew ?_
      refine plan_step rfl rfl (fun K hK => ?_)
      go_wp2_with fail
      refine hK _ _ (Chg.refl _ _).drew ?_
      clear hK
      refine plan_step rfl rfl (fun K hK => ?_)
      go_wp2_with fail
      refine hK _ _ (Chg.refl _ _).drew ?_
      clear hK
      refine plan_step rfl rfl (fun K hK => ?_)
      go_wp2_with fail
      refine hK _ _ (Chg.refl _ _).drew ?_
      clear hK
      refine plan_step rfl rfl (fun K hK => ?_)
      go_wp2_with fail
      refine hK _ _ (Chg.refl _ _).drew ?_
      clear hK
      refine free_move (v := .slice (some ⟨g8, 0, none⟩) 1 cap8) rfl rfl ?_
      go_frame
      refine plan_free (v := .pointer (some ⟨g8, 0, none⟩)) rfl rfl (fun W _ => by go_simp) ?_
      go_frame
      refine free_load (v := .pointer (some ⟨g8, 0, none⟩)) (u := d8.val) rfl rfl (fun W hS => load_row (ownsRow_chg HCS8.out.row hS (fun _ _ e => e)) 0 d8.row (fun j v hv => by simpa using hv) Try.underlying28 (by kernel_rfl)) ?_
      go_frame
      refine plan_step rfl rfl (fun K hK => ?_)
      have hb8c := HB8.out.chgNo (Chg.refl No w8).drew
      have hb8d := hb8c.cell
      go_wp2_with fail
      refine hK _ _ (Chg.refl _ _).drew ?_
      clear hK hb8c hb8d
      refine plan_step rfl rfl (fun K hK => ?_)
      have hokc : (Cmd.mk ⟨t, pl, s, k, ua, un, uc, x, y, ww, hh, id, cl, sz⟩ us).ok w := by
        unfold Cmd.ok CmdV.units Cmd.cells; simp only [HN.out]; exact SL.out
      have hus8 : d8.us = us := by have := HABS.out; unfold Cmd.abs at this; simp only [CmdA.mk.injEq] at this; exact this.2.2.2.2.1
      have hsm := fun W (hc : Chg No w8 W) => same_true d8 (Cmd.mk ⟨t, pl, s, k, ua, un, uc, x, y, ww, hh, id, cl, sz⟩ us) W HABS.out (Sl.ofOwns (ownsRow_chg (HCS8.out.own d8 (by simp)) hc (fun _ _ e => e))) (hokc.chg (HW8.out.trans hc)) (by rw [hus8, HN.out]; omega)
      have HSM := hid hsm
      clear hsm hokc
      go_wp2_with fail
      refine (HSM.out w8.drew (Chg.refl _ _).drew).mono ?_
      rintro e w9 ⟨rfl, hch9⟩
      have h89 : Chg No w8 w9 := (Chg.refl No w8).drew.trans hch9
      refine hK _ _ h89 ?_
      clear hK
      refine plan_step rfl rfl (fun K hK => ?_)
      go_wp2_with fail
      refine hK _ _ h89 ?_
      clear hK
      refine plan_step rfl rfl (fun K hK => ?_)
      go_wp2_with fail
      refine hK _ _ h89 ?_
      clear hK
      refine plan_done ?_
      go_wp2_with fail
      have hb9 := HB8.out.chgNo h89
      have hcs9 := HCS8.out.chgNo h89
      have hlog9 := HLOG8.out.chgNo h89
      have hw9 : Chg No w w9 := HW8.out.trans h89
      have HB9 := hid hb9
      have HCS9 := hid hcs9
      have HLOG9 := hid hlog9
      have HW9 := hid hw9
      clear hb9 hcs9 hlog9 hw9 HB8 HCS8 HLOG8 HW8 HSM h89 hch9
      obtain ⟨⟨e1, e2, e3, e4, ea, en, ec, e5, e6, e7, e8, e9, e10, e11⟩, us8⟩ := d8
      obtain ⟨z9, hz9⟩ : ∃ z9, wr.heap.size = z9 := ⟨_, rfl⟩
      rw [hz9] at HCS9 HFAR
      clear hz9
      have hun8 : en = un := by
        obtain ⟨_, _, e, _⟩ := Sl.ofOwns (HCS9.out.own _ (List.mem_cons_self ..))
        simp only [CmdV.units, Value.slice.injEq] at e
        rw [e.2.1, show us8 = us from hus8]; exact HN.out
      subst hun8
      have hown9 : w9.ownsRow z9 3 1 (.slice ea en ec) en (us8.map (Value.int .i64)) := by
        have := HCS9.out.own _ (List.mem_cons_self ..)
        have hlen : us8.length = en := by rw [show us8 = us from hus8]; exact HN.out
        unfold CmdV.units Cmd.cells at this
        simp only [hlen] at this
        exact this
      have hcell9 : w9.cell? ⟨g8, 4, none⟩ = some (.slice ea en ec) := (HCS9.out.row.cellAt 4 (by simp)).trans rfl
      have hng : ∀ j, (Value.slice ea en ec).ownBlock = some j → j ≠ g8 := fun j hj e => owns_ne_owns HCS9.out.row hown9 (by decide) g8 rfl (by rw [hj, e])
      have HNG := hid hng
      have HOWN9 := hid hown9
      have HCELL9 := hid hcell9
      clear hng hown9 hcell9 hus8
      unfold Cmd.val CmdV.val CmdV.cells
      go_loopw [7] (fun i wq => ∃ (j : Nat) (xs : List Value), j ≤ en ∧ i = .int .i64 j ∧ wq.ownsRow z9 3 1 (.slice ea en ec) en xs ∧ Chg (fun j => (Value.slice ea en ec).ownBlock = some j) w9 wq) (fun i _ => en - (intOf i).toNat)
      case atStart => exact ⟨0, _, Nat.zero_le _, rfl, HOWN9.out, Chg.refl _ _⟩
      case round =>
        obtain ⟨j2, xs2, hj2, rfl, hown, hch⟩ := hrel
        have hqrc := hch.cell HCELL9.out (fun e => HNG.out g8 e rfl)
        by_cases hlt2 : j2 < en
        · have hne : ∃ g, ea = some ⟨g, 0, none⟩ := by
            rcases hown.2 with ⟨e, h0⟩ | ⟨g, _, _, e, _⟩
            · simp only [Value.slice.injEq] at e; omega
            · simp only [Value.slice.injEq] at e; exact ⟨g, e.1⟩
          obtain ⟨g, rfl⟩ := hne
          have hlt' : (j2 : Int) < (en : Int) := by omega
          obtain ⟨hst, hgr⟩ := hown.stored j2 (.int .i64 (-8))
          have hcj : ∃ u, wr.cell? ⟨g, j2, none⟩ = some u := ⟨_, (hown.cellAt j2 (by omega)).trans (List.getElem?_eq_getElem (by rw [hown.1]; omega))⟩
          obtain ⟨u, hcj⟩ := hcj
          have hfj := hown.frozenAt j2
          have HST := hid hst
          have HGR := hid hgr
          clear hst hgr hown
          go_wp2_with fail
          exact ⟨⟨j2 + 1, _, by omega, by go_num, HST.out, hch.grown HGR.out (fun j e _ => by rw [← e]; rfl)⟩, by simp [intOf]; omega⟩
        · have hfo : ∀ j, (Value.slice ea en ec).ownBlock = some j → z9 ≤ j := fun j e => (hown.lt j e).1
          have hlogx := HLOG9.out.chg hch (fun e => (HFAR.out _ (hfo _ e)).2.2.1 rfl) (fun e => (HFAR.out _ (hfo _ e)).2.2.2.1 rfl) (fun z hz kk hk e => (HFAR.out _ (hfo _ e)).2.2.2.2 z hz kk hk rfl)
          have hbx := HB9.out.chg hch (fun e => by have := (HFAR.out _ (hfo _ e)).1; omega)
          have hwx : Chg No w wr := HW9.out.trans' hch (fun j hj e => by have := (HFAR.out _ (hfo _ e)).2.1; omega)
          have HLOGX := hid hlogx
          have HBX := hid hbx
          have HWX := hid hwx
          clear hlogx hbx hwx hfo HLOG9 HB9 HW9 HCS9 HOWN9 HCELL9 HNG hown
          go_wp2_with fail
          refine wp_plan (fun W => Chg No wr W) [(true, 0), (true, 1), (true, 2), (true, 6), (false, 3), (false, 4), (false, 5), (false, 7), (false, 8), (false, 9), (false, 10), (false, 11)] (by kernel_rfl) (by kernel_rfl) (by kernel_rfl) (fun d _ _ _ _ h => by cases d <;> exact h) (Chg.refl _ _).drew ?_
          refine free_move (v := .pointer (some ⟨p, 0, none⟩)) rfl rfl ?_
          go_frame
          refine free_fieldAddr (v := .pointer (some ⟨b, 0, none⟩)) (u := .pointer (some ⟨b, 0, none⟩)) rfl rfl (fun W => by go_simp) ?_
          go_frame
          refine free_load (v := .pointer (some ⟨b, 0, none⟩)) (u := .int .i64 t) rfl rfl (fun W hS => by have := (HBX.out.chgNo hS).c 0 rfl; go_simp) ?_
          go_frame
          refine free_load (v := .pointer (some ⟨b, 0, none⟩)) rfl rfl (fun W hS => load_blk (HBX.out.chgNo hS) Try.underlying28 (by kernel_rfl)) ?_
          go_frame
          refine plan_step rfl rfl (fun K hK => ?_)
          go_wp2_with fail
          refine (at_any (HLOGX.out.chgNo (Chg.refl No wr).drew) t (by simp [put, hask])).mono ?_
          rintro e w10 ⟨v10, cs10, rfl, hcs10, hmap10, _, hch10⟩
          obtain ⟨d10, rfl, habs10⟩ := one_cmds rfl hmap10
          obtain ⟨g10, cap10, rfl⟩ : ∃ g cap, v10 = .slice (some ⟨g, 0, none⟩) 1 cap := by
            rcases hcs10.row.2 with ⟨_, h0⟩ | ⟨g, cap, _, e, _⟩
            · simp at h0
            · exact ⟨g, cap, e⟩
          have hx10 : Chg No wr w10 := (Chg.refl No wr).drew.trans hch10
          have habs : d10.abs = (Cmd.mk ⟨t, pl, s, k, ua, en, uc, x, y, ww, hh, id, cl, sz⟩ us).abs := habs10.trans HCA.out
          have HABS10 := hid habs
          have HCS10 := hid hcs10
          clear hmap10 habs10 hcs10 hch10 habs
          refine hK _ _ hx10 ?_
          clear hK
          refine plan_step rfl rfl (fun K hK => ?_)
          go_wp2_with fail
          refine hK _ _ hx10 ?_
          clear hK
          refine plan_value (v := d10.val) rfl rfl (exec_load (v := .pointer (some ⟨g10, 0, none⟩)) rfl (load_row HCS10.out.row 0 d10.row (fun j v hv => by simpa using hv) Try.underlying28 (by kernel_rfl))) hx10 ?_
          go_frame
          refine plan_step rfl rfl (fun K hK => ?_)
          have hokc : (Cmd.mk ⟨t, pl, s, k, ua, en, uc, x, y, ww, hh, id, cl, sz⟩ us).ok w := by
            unfold Cmd.ok CmdV.units Cmd.cells; simp only [HN.out]; exact SL.out
          have hus10 : d10.us = us := by have := HABS10.out; unfold Cmd.abs at this; simp only [CmdA.mk.injEq] at this; exact this.2.2.2.2.1
          have hsm := same_true d10 (Cmd.mk ⟨t, pl, s, k, ua, en, uc, x, y, ww, hh, id, cl, sz⟩ us) w10 HABS10.out (Sl.ofOwns (HCS10.out.own d10 (by simp))) (hokc.chg (HWX.out.trans hx10)) (by rw [hus10, HN.out]; omega)
          have HSM := hid hsm
          clear hsm hokc
          go_wp2_with fail
          refine HSM.out.mono ?_
          rintro e w11 ⟨rfl, hch11⟩
          have hx11 : Chg No wr w11 := hx10.trans hch11
          refine hK _ _ hx11 ?_
          clear hK
          refine plan_step rfl rfl (fun K hK => ?_)
          go_wp2_with fail
          refine hK _ _ hx11 ?_
          clear hK
          refine plan_step rfl rfl (fun K hK => ?_)
          go_wp2_with fail
          refine (awake_any w11).mono ?_
          rintro e w12 ⟨rfl, hch12⟩
          have hx12 : Chg No wr w12 := hx11.trans hch12
          refine hK _ _ hx12 ?_
          clear hK
          refine plan_step rfl rfl (fun K hK => ?_)
          go_wp2_with fail
          refine hK _ _ hx12 ?_
          clear hK
          refine plan_step rfl rfl (fun K hK => ?_)
          go_wp2_with fail
          refine hK _ _ hx12 ?_
          clear hK
          refine plan_done ?_
          go_wp2_with fail
          go_ret
          exact ⟨rfl, HWX.out.trans hx12⟩
end Go.Proofs.Ytfpmgcpdjlkomaa
