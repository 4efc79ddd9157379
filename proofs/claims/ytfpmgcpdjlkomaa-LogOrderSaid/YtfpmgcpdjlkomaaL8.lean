/- At, by a contract: the commands of a tick in the order of their keys. -/
import Derived.Test.YtfpmgcpdjlkomaaL7
import Derived.Test.YtfpmgcpdjlkomaaPxPlan
namespace Go.Proofs.Ytfpmgcpdjlkomaa
open Go.RowKit Go.Px Go.Proofs Go.Shelf
open Go.Maps (Keyed)
set_option maxHeartbeats 400000
set_option maxRecDepth 100000

/-- A command, all of it, without memory. -/
structure CmdA where
  tick : Int
  player : Int
  seq : Int
  kind : Int
  us : List Int
  x : Int
  y : Int
  w : Int
  h : Int
  id : Int
  cls : Int
  size : Int
deriving DecidableEq

def Cmd.abs (c : Cmd) : CmdA := ⟨c.v.tick, c.v.player, c.v.seq, c.v.kind, c.us, c.v.x, c.v.y, c.v.w, c.v.h, c.v.id, c.v.cls, c.v.size⟩
def CmdA.key (c : CmdA) : Key := ⟨c.tick, c.player, c.seq⟩
def Cmd.row (c : Cmd) : List Value := c.v.cells.toList

/-- A slice of commands, in rows of the call's own from block B on. -/
structure CmdsIs (w : World) (B : Nat) (v : Value) (cs : List Cmd) : Prop where
  row : w.ownsRow B 28 12 v cs.length (cs.flatMap Cmd.row)
  own : ∀ c ∈ cs, w.ownsRow B 3 1 c.v.units c.us.length c.cells

theorem CmdsIs.chgNo {w w' : World} {B : Nat} {v : Value} {cs : List Cmd} (h : CmdsIs w B v cs) (hc : Chg No w w') : CmdsIs w' B v cs :=
  ⟨ownsRow_chg h.row hc (fun _ _ e => e), fun c hcs => ownsRow_chg (h.own c hcs) hc (fun _ _ e => e)⟩

theorem Try.u33 : Try.prog.underlying 33 = some (.slice 28) := by kernel_rfl
theorem Try.info28 : (Try.prog.info? 28).map (fun i => (i.zero, i.size, i.bytes)) = some (some zcmd, 12, 112) := by kernel_rfl
theorem Try.E33 : EI Try.prog 33 28 zcmd 12 112 := ⟨Try.u33, Try.info28, rfl, by decide, by decide⟩

/-- Rows of unlike elements are unlike blocks. -/
theorem owns_ne_owns {w : World} {B e size : Nat} {v : Value} {n : Nat} {xs : List Value} {B' e' size' : Nat} {v' : Value} {n' : Nat} {xs' : List Value} (h : w.ownsRow B e size v n xs) (h' : w.ownsRow B' e' size' v' n' xs') (he : e ≠ e') :
    ∀ k, v.ownBlock = some k → ¬ v'.ownBlock = some k := by
  intro k hk hk'
  rcases h.2 with ⟨hv, _⟩ | ⟨g, cap, cur, hv, _, hg, _⟩
  · rw [hv] at hk; simp [Value.ownBlock] at hk
  · rcases h'.2 with ⟨hv', _⟩ | ⟨g', cap', cur', hv', _, hg', _⟩
    · rw [hv'] at hk'; simp [Value.ownBlock] at hk'
    · rw [hv] at hk; rw [hv'] at hk'
      simp [Value.ownBlock] at hk hk'
      subst hk; subst hk'
      rw [hg] at hg'
      injection hg' with hg'
      injection hg' with _ h2
      exact he h2

theorem kcells_get : ∀ {ks : List Key} {k : Nat} {q : Key}, ks[k]? = some q → (kcells ks)[k * 3]? = some (.int .i64 q.t) ∧ (kcells ks)[k * 3 + 1]? = some (.int .i64 q.p) ∧ (kcells ks)[k * 3 + 2]? = some (.int .i64 q.s)
  | [], _, _, h => by simp at h
  | a :: ks, 0, q, h => by
    simp at h
    subst h
    simp [kcells, Key.cs]
  | a :: ks, k + 1, q, h => by
    have h' : ks[k]? = some q := by simpa using h
    have ih := kcells_get h'
    have e : kcells (a :: ks) = Key.cs a ++ kcells ks := rfl
    have hl : (Key.cs a).length = 3 := rfl
    rw [e]
    refine ⟨?_, ?_, ?_⟩
    · rw [List.getElem?_append_right (by omega), hl, show (k + 1) * 3 - 3 = k * 3 by omega]; exact ih.1
    · rw [List.getElem?_append_right (by omega), hl, show (k + 1) * 3 + 1 - 3 = k * 3 + 1 by omega]; exact ih.2.1
    · rw [List.getElem?_append_right (by omega), hl, show (k + 1) * 3 + 2 - 3 = k * 3 + 2 by omega]; exact ih.2.2

/-- What is under a key that came out of the map. -/
theorem look_mem {w : World} {m : Nat} {L : List (Key × Cmd)} (h : IsMap Try.prog 40 Key.val Cmd.val w m L) {k : Key} (hk : k ∈ L.map Prod.fst) :
    ∃ c, get L k = some c ∧ (k, c) ∈ L ∧ (Instr.lookup 59 (.map (some m)) k.val false).run Try.prog w = .ok c.val w := by
  obtain ⟨x, hx, rfl⟩ := List.mem_map.1 hk
  obtain ⟨k, c⟩ := x
  have hg := get_of_mem h.nodup hx
  obtain ⟨l, hl⟩ := h.good _ hx
  exact ⟨c, hg, hx, (h.look_some Try.keyed Key.inj Try.u59 zero28 k hl hg).2⟩

theorem owns_ne_blk {w : World} {B e size : Nat} {v : Value} {n : Nat} {xs : List Value} {b : Nat} {cs : Array Value} {t : TypeId} (h : w.ownsRow B e size v n xs) (h' : Blk w b cs t) (he : e ≠ t) : ∀ k, v.ownBlock = some k → ¬ k = b := by
  intro k hk hk'
  subst hk'
  rcases h.2 with ⟨hv, _⟩ | ⟨g, cap, cur, hv, _, hg, _⟩
  · rw [hv] at hk; simp [Value.ownBlock] at hk
  · rw [hv] at hk
    simp [Value.ownBlock] at hk
    subst hk
    unfold Blk at h'
    rw [hg] at h'
    injection h' with h'
    injection h' with _ h2
    exact he h2

/-- A command more behind the others: what stays as it was. -/
theorem cmds_more {w w2 w3 w4 : World} {p m B g n cap : Nat} {first : Int} {L : List (Key × Cmd)} {ks : List Key} {cs : List Cmd} {u5 v5 : Value} {o : Obj} (HLOG : LogIs w2 p m B first L) (HCS : CmdsIs w2 w.heap.size u5 cs)
    (HKR : w2.ownsRow w.heap.size 40 3 (.slice (some ⟨g, 0, none⟩) n cap) n (kcells ks)) (HCH : Chg No w w2) (hc3 : Chg No w2.drew w3) (hgrow : (w3.alloc o).grownBy w4 u5.ownBlock) {c' : Cmd} (hown : w3.ownsRow w2.drew.heap.size 3 1 c'.v.units c'.us.length c'.cells)
    (hown5 : w4.ownsRow w.heap.size 28 12 v5 (cs.length + 1) (cs.flatMap Cmd.row ++ c'.row)) :
    CmdsIs w4 w.heap.size v5 (cs ++ [c']) ∧ LogIs w4 p m B first L ∧ w4.ownsRow w.heap.size 40 3 (.slice (some ⟨g, 0, none⟩) n cap) n (kcells ks) ∧ Chg No w w4 := by
  have h24 : Chg (fun j => u5.ownBlock = some j) w2 w4 := (((Chg.refl _ w2).drew.trans hc3.to).alloc o).grown hgrow (fun j e _ => e)
  have h34 : Chg (fun j => u5.ownBlock = some j) w3 w4 := ((Chg.refl _ w3).alloc o).grown hgrow (fun j e _ => e)
  have hu3 : w3.ownsRow w.heap.size 28 12 u5 cs.length (cs.flatMap Cmd.row) := ownsRow_chg HCS.row ((Chg.refl No w2).drew.trans hc3) (fun _ _ e => e)
  have hpn : ¬ u5.ownBlock = some p := fun e => owns_ne_blk HCS.row HLOG.blk (by decide) p e rfl
  have hmn : ¬ u5.ownBlock = some m := fun e => by
    obtain ⟨_, _, hm⟩ := HLOG.map.obj
    exact owns_ne_obj HCS.row hm (fun _ _ _ e => by cases e) m e rfl
  refine ⟨⟨?_, ?_⟩, ?_, ?_, ?_⟩
  · have e1 : (cs ++ [c']).length = cs.length + 1 := by simp
    have e2 : (cs ++ [c']).flatMap Cmd.row = cs.flatMap Cmd.row ++ c'.row := by simp
    rw [e1, e2]; exact hown5
  · intro c hc
    rcases List.mem_append.1 hc with hc | hc
    · exact ownsRow_chg (HCS.own c hc) h24 (fun k hk e => owns_ne_owns HCS.row (HCS.own c hc) (by decide) k e hk)
    · simp at hc
      subst hc
      refine ownsRow_mono (B := w2.drew.heap.size) ?_ HCH.size
      exact ownsRow_chg hown h34 (fun k hk e => owns_ne_owns hu3 hown (by decide) k e hk)
  · exact HLOG.chg h24 hpn hmn (fun x hx k hk e => owns_ne_owns HCS.row (HLOG.own x hx) (by decide) k e hk)
  · exact ownsRow_chg HKR h24 (fun k hk e => owns_ne_owns HCS.row HKR (by decide) k e hk)
  · exact HCH.trans' h24 (fun j hj e => by have := (HCS.row.lt j e).1; omega)

/-- At: the commands of a tick, in order, copies. -/
theorem at_any {w : World} {p m B : Nat} {first : Int} {L : List (Key × Cmd)} (h : LogIs w p m B first L) (tick : Int) (hlim : L.length * 112 ≤ 140737488355328) :
    Calls Try.prog 10 #[.pointer (some ⟨p, 0, none⟩), .int .i64 tick] w fun e w' => ∃ v cs, e = .returned v ∧ CmdsIs w' w.heap.size v cs ∧ cs.map (fun c => some c.abs) = (ksort ((L.map Prod.fst).filter (fun k => k.t == tick))).map (fun q => (get L q).map Cmd.abs) ∧ LogIs w' p m B first L ∧ Chg No w w' := by
  have eg : ∀ args w, (callFunc 26 args).run Try.prog w = .ok (.enter 26 args) w := enters_of Try.func26 (by kernel_rfl) rfl
  go_enter Try.func10, Try.ntmps10
  go_wp2_with fail
  have hq : ∀ (k : Key) (W : World), Chg No (w.alloc (.cells #[.int .i64 tick] 3)) W → Calls Try.prog 26 (#[k.val] ++ #[.pointer (some ⟨w.heap.size, 0, none⟩)]) W fun e w' => e = .returned (.bool (k.t == tick)) ∧ Chg No W w' := fun k W hc => by
    have hb := (Blk.new w #[.int .i64 tick] 3).chgNo hc
    exact at_closure k tick w.heap.size W (hb.c 0 rfl) hb.lt
  refine (keys_any (w.alloc (.cells #[.int .i64 tick] 3)) p m first L (h.blk.alloc _) (h.map.chgNo ((Chg.refl No w).alloc _)) 26 _ _ eg hq (by omega)).mono ?_
  rintro e w1 ⟨v, rfl, hown, hch⟩
  obtain ⟨ks, hks⟩ : ∃ ks, ksort ((L.map Prod.fst).filter (fun k => k.t == tick)) = ks := ⟨_, rfl⟩
  have hlen : ((L.map Prod.fst).filter (fun k => k.t == tick)).length = ks.length := by rw [← hks]; unfold ksort; rw [List.length_mergeSort]
  rw [hks, hlen] at hown
  have hle : ks.length ≤ L.length := by rw [← hlen]; exact Nat.le_trans (List.length_filter_le _ _) (by simp)
  obtain ⟨n, hn⟩ : ∃ n, ks.length = n := ⟨_, rfl⟩
  rw [hn] at hown hle
  obtain ⟨ad, cap, hv⟩ : ∃ ad cap, v = .slice ad n cap := by obtain ⟨ad, cap, e, _⟩ := Sl.ofOwns hown; exact ⟨ad, cap, e⟩
  subst hv
  have HKS := hid hks
  have HN := hid hn
  have hch1 : Chg No w w1 := ((Chg.refl No w).alloc _).trans hch
  have hlog1 := h.chgNo hch1
  have hz1 : w.heap.size ≤ w1.heap.size := hch1.size
  have hown1 := ownsRow_mono hown (B' := w.heap.size) (by simp)
  clear hks hn hlen hq hch hown
  go_wp2_with fail
  have hmem : ∀ q ∈ ks, q ∈ L.map Prod.fst := fun q hq => by
    rw [← HKS.out] at hq
    exact (List.mem_filter.1 ((List.mergeSort_perm _ _).mem_iff.1 hq)).1
  have HMEM := hid hmem
  have HLE := hid hle
  clear hmem h
  go_loopw [5, 12] (fun v i wr => ∃ (k : Nat) (cs : List Cmd), i = .int .i64 k ∧ k ≤ n ∧ CmdsIs wr w.heap.size v cs ∧ Hid (cs.length = k) ∧ Hid (cs.map (fun c => some c.abs) = (ks.take k).map (fun q => (get L q).map Cmd.abs)) ∧ LogIs wr p m B first L ∧ wr.ownsRow w.heap.size 40 3 (.slice ad n cap) n (kcells ks) ∧ Chg No w wr) (fun _ i _ => n - (intOf i).toNat)
  case atStart => exact ⟨0, [], rfl, Nat.zero_le _, ⟨World.ownsRow_nil _ _ _ _, by simp⟩, rfl, rfl, hlog1, hown1, hch1⟩
  case round =>
    clear hch1 hlog1 hown1 hz1
    obtain ⟨k, cs, rfl, hk, hcs, hcl, habs, hlog, hkr, hch⟩ := hrel
    by_cases hlt : k < n
    · have hne : ∃ g, ad = some ⟨g, 0, none⟩ := by
        rcases hkr.2 with ⟨e, h0⟩ | ⟨g, _, _, e, _⟩
        · omega
        · simp only [Value.slice.injEq] at e; exact ⟨g, e.1⟩
      obtain ⟨g, rfl⟩ := hne
      obtain ⟨q, hq⟩ : ∃ q, ks[k]? = some q := ⟨_, List.getElem?_eq_getElem (by rw [HN.out]; exact hlt)⟩
      obtain ⟨g0, g1, g2⟩ := kcells_get hq
      have c0 := (hkr.cellAt (k * 3) (by omega)).trans g0
      have c1 := (hkr.cellAt (k * 3 + 1) (by omega)).trans g1
      have c2 := (hkr.cellAt (k * 3 + 2) (by omega)).trans g2
      obtain ⟨c, hgc, hmc, _⟩ := look_mem hlog.map (HMEM.out q (List.mem_of_getElem? hq))
      obtain ⟨q1, q2, q3⟩ := q
      have HQ := hid hq
      have HGC := hid hgc
      have HLOG := hid hlog
      have HKR := hid hkr
      have HCS := hid hcs
      clear hq g0 g1 g2 hgc hlog hkr hcs
      go_wp2_with fail
      refine wp_world (fun w2 => Blk w2 wr.heap.size #[.int .i64 q1, .int .i64 q2, .int .i64 q3] 40 ∧ LogIs w2 p m B first L ∧ CmdsIs w2 w.heap.size u5 cs ∧ w2.ownsRow w.heap.size 40 3 (.slice (some ⟨g, 0, none⟩) n cap) n (kcells ks) ∧ Chg No w w2)
        ⟨Blk.new _ _ _, HLOG.out.chgNo ((Chg.refl No wr).alloc _), HCS.out.chgNo ((Chg.refl No wr).alloc _), ownsRow_chg HKR.out ((Chg.refl No wr).alloc _) (fun _ _ e => e), hch.alloc _⟩ ?_
      clear c0 c1 c2 HLOG HCS HKR hch
      rintro w2 ⟨bk, hlog, hcs, hkr, hch⟩
      have hoc := fun W (hc : Chg No w2 W) => own_cmd c W (Sl.ofOwns (ownsRow_chg (hlog.own _ hmc) hc (fun _ _ e => e))) (hlog.lim _ hmc)
      simp only [CmdV.val, CmdV.cells] at hoc
      have HOC := hid hoc
      have HLOG := hid hlog
      have HCS := hid hcs
      have HKR := hid hkr
      have HCH := hid hch
      have HMC := hid hmc
      have HBK := hid bk
      clear bk hlog hcs hkr hch hoc hmc
      refine wp_plan (fun W => Chg (fun j => u5.ownBlock = some j) w2 W) [(true, 0), (true, 1), (true, 2), (true, 3), (true, 4), (true, 5), (true, 6), (false, 7), (false, 8), (false, 9), (false, 10)] (by kernel_rfl) (by kernel_rfl) (by kernel_rfl) (fun d _ _ _ _ h => by cases d <;> exact h) (Chg.refl _ _).drew ?_
      have hpn : ¬ u5.ownBlock = some p := fun e => owns_ne_blk HCS.out.row HLOG.out.blk (by decide) p e rfl
      have hbn : ¬ u5.ownBlock = some wr.heap.size := fun e => owns_ne_blk HCS.out.row HBK.out (by decide) _ e rfl
      have hmn : ¬ u5.ownBlock = some m := fun e => by
        obtain ⟨_, _, hm⟩ := HLOG.out.map.obj
        exact owns_ne_obj HCS.out.row hm (fun _ _ _ e => by cases e) m e rfl
      refine free_move (v := u5) rfl rfl ?_
      go_frame
      refine free_move (v := .pointer (some ⟨p, 0, none⟩)) rfl rfl ?_
      go_frame
      refine free_nilCheck (ad := ⟨p, 0, none⟩) rfl rfl ?_
      go_frame
      refine free_fieldAddr (v := .pointer (some ⟨p, 0, none⟩)) (u := .pointer (some ⟨p, 1, none⟩)) rfl rfl (fun W => by go_simp) ?_
      go_frame
      refine free_load (v := .pointer (some ⟨p, 1, none⟩)) (u := .map (some m)) rfl rfl (fun W hS => by have := hS.cell (HLOG.out.blk.c 1 rfl) hpn; go_simp) ?_
      go_frame
      refine free_load (v := .pointer (some ⟨wr.heap.size, 0, none⟩)) (u := .agg #[.int .i64 q1, .int .i64 q2, .int .i64 q3]) rfl rfl (fun W hS => load_blk (HBK.out.chg hS hbn) Try.underlying40 (by kernel_rfl)) ?_
      go_frame
      refine free_lookup (v := .map (some m)) (u := .agg #[.int .i64 q1, .int .i64 q2, .int .i64 q3]) (r := c.val) rfl rfl rfl (fun W hS => by
        obtain ⟨l, hl⟩ := HLOG.out.map.good _ HMC.out
        exact ((HLOG.out.map.chg hS hmn).look_some Try.keyed Key.inj Try.u59 zero28 ⟨q1, q2, q3⟩ hl HGC.out).2) ?_
      go_frame
      refine plan_step rfl rfl (fun K hK => ?_)
      go_wp2_with fail
      refine (HOC.out _ (Chg.refl No w2).drew).mono ?_
      rintro e w3 ⟨v', rfl, hv, hown, hc3⟩
      have HV := hid hv
      clear hv
      have hS3 : Chg (fun j => u5.ownBlock = some j) w2 w3 := ((Chg.refl _ w2).drew).trans hc3.to
      refine hK _ _ hS3 ?_
      clear hK
      refine plan_step rfl rfl (fun K hK => ?_)
      go_wp2_with fail
      refine hK _ _ (hS3.alloc _) ?_
      clear hK
      have hcl' := hcl.out
      have hu3 : (w3.alloc (.cells #[.int .i64 v'.tick, .int .i64 v'.player, .int .i64 v'.seq, .int .i64 v'.kind, .slice v'.ua v'.un v'.uc, .int .i64 v'.x, .int .i64 v'.y, .int .i64 v'.w, .int .i64 v'.h, .int .i64 v'.id, .int .i64 v'.cls, .int .i64 v'.size] 28)).ownsRow w.heap.size 28 12 u5 cs.length (cs.flatMap Cmd.row) :=
        ownsRow_chg (ownsRow_chg HCS.out.row ((Chg.refl No w2).drew.trans hc3) (fun _ _ e => e)) ((Chg.refl No w3).alloc _) (fun _ _ e => e)
      have hrd := Rd.new w3 [.int .i64 v'.tick, .int .i64 v'.player, .int .i64 v'.seq, .int .i64 v'.kind, .slice v'.ua v'.un v'.uc, .int .i64 v'.x, .int .i64 v'.y, .int .i64 v'.w, .int .i64 v'.h, .int .i64 v'.id, .int .i64 v'.cls, .int .i64 v'.size] 28
      have hz3 : w.heap.size ≤ w3.heap.size := (HCH.out.drew.trans hc3).size
      refine plan_step rfl rfl (fun K hK => ?_)
      refine wpo_append Try.E33 rfl hu3 rfl hrd rfl rfl (by simp [Value.oneCell']) (by have := HLE.out; omega) (by simp; omega) ?_
      intro v5 w4 hown5 hgrow
      refine hK _ _ ((hS3.alloc _).grown hgrow (fun j e _ => e)) ?_
      clear hK
      refine plan_step rfl rfl (fun K hK => ?_)
      go_wp2_with fail
      refine hK _ _ ((hS3.alloc _).grown hgrow (fun j e _ => e)) ?_
      clear hK
      refine plan_done ?_
      obtain ⟨f1, f2, f3, f4⟩ := cmds_more (c' := ⟨v', c.us⟩) HLOG.out HCS.out HKR.out HCH.out hc3 hgrow hown hown5
      have F1 := hid f1
      have F2 := hid f2
      have F3 := hid f3
      have F4 := hid f4
      have HREL : Hid ((cs ++ [(⟨v', c.us⟩ : Cmd)]).map (fun c => some c.abs) = (ks.take (k + 1)).map (fun q => (get L q).map Cmd.abs)) := by
        show _ = _
        rw [List.map_append, habs.out, List.take_add_one, HQ.out, List.map_append]
        simp only [List.map_cons, List.map_nil, Option.toList_some, HGC.out, Option.map_some]
        congr 2
        rw [HV.out]
        rfl
      clear f1 f2 f3 f4 hS3 hu3 hrd hgrow hown5 hown hc3 HLOG HCS HKR HCH hcl'
      go_wp2_with fail
      go_roundw
      case rel => exact ⟨k + 1, cs ++ [⟨v', c.us⟩], by go_num, by omega, F1.out, by show _ = _; simp; exact hcl.out, HREL, F2.out, F3.out, F4.out⟩
      case measure => simp [intOf]; omega
    · go_wp2_with fail
      go_ret
      refine ⟨u5, cs, rfl, hcs, ?_, hlog, hch⟩
      have := habs.out
      rw [List.take_of_length_le (by rw [HN.out]; omega)] at this
      rw [this, HKS.out]
end Go.Proofs.Ytfpmgcpdjlkomaa
