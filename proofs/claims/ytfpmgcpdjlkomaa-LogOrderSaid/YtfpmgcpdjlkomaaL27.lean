/- 'LogOrder' answers true, for every list of commands within the reach: the walk. -/
import Derived.Test.YtfpmgcpdjlkomaaL26
import Derived.Deep.CutBlock
import Derived.Deep.CutRange
namespace Go.Proofs.Ytfpmgcpdjlkomaa
open Go.RowKit Go.Px Go.Proofs Go.Shelf
set_option maxHeartbeats 400000
set_option maxRecDepth 100000

theorem load_arg {w : World} {b off : Nat} {cs : List Cmd} (h : ∀ k c, cs[k]? = some c → ∀ j u, c.row[j]? = some u → w.cell? ⟨b, off + k * 12 + j, none⟩ = some u) {k : Nat} {c : Cmd} (hc : cs[k]? = some c) :
    (Instr.loadAt 28 (.pointer (some ⟨b, off + k * 12, none⟩))).run Try.prog w = .ok c.val w :=
  run_loadAt_mid (P := Try.prog) w b (off + k * 12) 28 c.row _ (fun j v hv => h k c hc j v hv) Try.underlying28 rfl (by kernel_rfl)

/-- A load whose answer is known. -/
theorem st_ld {P : Program} {ops : Array Oper} {Q : Exit → Act → World → Prop} {o : Oper} {rest : List Oper} {a : Act} {w : World} {ty : TypeId} {x : Operand} {v u : Value} (hg : o.guard = none) (ho : o.op = .load ty x) (hx : a.eval x = v) (hrun : (Instr.loadAt ty v).run P w = .ok u w) (h : wpList P ops Q rest (a.put o.dst u) w) : wpList P ops Q (o :: rest) a w := by
  refine wpList_plain hg fun K' hK' => ?_
  unfold Oper.wp
  simp [execOp, ho, hx, hrun, Result.andThen]
  exact hK' _ _ h

/-- A look-up whose answer is known. -/
theorem st_lk {P : Program} {ops : Array Oper} {Q : Exit → Act → World → Prop} {o : Oper} {rest : List Oper} {a : Act} {w : World} {ty : TypeId} {m x : Operand} {mv v u : Value} {b : Bool} (hg : o.guard = none) (ho : o.op = .lookup ty m x b) (hm : a.eval m = mv) (hx : a.eval x = v) (hrun : (Instr.lookup ty mv v b).run P w = .ok u w) (h : wpList P ops Q rest (a.put o.dst u) w) : wpList P ops Q (o :: rest) a w := by
  refine wpList_plain hg fun K' hK' => ?_
  unfold Oper.wp
  simp [execOp, ho, hm, hx, hrun, Result.andThen]
  exact hK' _ _ h

/-- A store into a map whose outcome is known. -/
theorem st_mu {P : Program} {ops : Array Oper} {Q : Exit → Act → World → Prop} {o : Oper} {rest : List Oper} {a : Act} {w w' : World} {ty : TypeId} {m k x : Operand} {mv kv v : Value} (hg : o.guard = none) (ho : o.op = .mapUpdate ty m k x) (hm : a.eval m = mv) (hk : a.eval k = kv) (hx : a.eval x = v) (hrun : (Instr.mapUpdate ty mv kv v).run P w = .ok () w') (h : wpList P ops Q rest (a.put o.dst undef) w') : wpList P ops Q (o :: rest) a w := by
  refine wpList_plain hg fun K' hK' => ?_
  unfold Oper.wp
  simp [execOp, ho, hm, hk, hx, hrun, Result.andThen]
  exact hK' _ _ h

set_option maxHeartbeats 4000000 in
theorem order_any (v : Value) (cs : List Cmd) (w : World) (h : ArgCmds w v cs) : Calls Try.prog 4 #[v] w fun e w' => e = .returned (.bool true) ∧ Chg No w w' := by
  obtain ⟨a, cap, rfl, harg⟩ := h.form
  obtain ⟨n, hn⟩ : ∃ n, cs.length = n := ⟨_, rfl⟩
  rw [hn]
  have HARG := hid harg
  have HH := hid h
  have HN := hid hn
  clear harg h hn
  go_enter Try.func4, Try.ntmps4
  go_wp2_with fail
  refine (awake_any w).mono ?_
  rintro e w0 ⟨rfl, hch0⟩
  have HC0 := hid hch0
  clear hch0
  go_wp2_with fail
  refine (new_any 0 _).mono ?_
  rintro e w1 ⟨rfl, hlog1, hch1⟩
  obtain ⟨p1, hp1⟩ : ∃ p, w0.heap.size + 1 = p := ⟨_, rfl⟩
  obtain ⟨m1, hm1⟩ : ∃ m, w0.heap.size = m := ⟨_, rfl⟩
  rw [hp1, hm1] at hlog1
  rw [hp1]
  have HP1 := hid (And.intro hp1 hm1)
  have HL1 := hid hlog1
  have HC1 := hid (HC0.out.trans hch1)
  clear hp1 hm1 hlog1 hch1
  go_wp2_with fail
  refine (new_any 0 _).mono ?_
  rintro e w2 ⟨rfl, hlog2, hch2⟩
  obtain ⟨p2, hp2⟩ : ∃ p, w1.heap.size + 1 = p := ⟨_, rfl⟩
  obtain ⟨m2, hm2⟩ : ∃ m, w1.heap.size = m := ⟨_, rfl⟩
  rw [hp2, hm2] at hlog2
  rw [hp2]
  have HP2 := hid (And.intro hp2 hm2)
  have HL1' := hid (HL1.out.chgNo hch2)
  have HL2 := hid hlog2
  have HC2 := hid (HC1.out.trans hch2)
  have hmm := @run_makeMap Try.prog
  have HNE := hid (show m1 ≠ w2.heap.size ∧ m2 ≠ w2.heap.size ∧ w.heap.size ≤ w2.heap.size from by
    have h1 := HL1.out.map.lt
    have h2 := hlog2.map.lt
    have h3 := hch2.size
    have h4 := HC2.out.size
    omega)
  clear hp2 hm2 hlog2 hch2 HC1
  go_upto_block 0 with fail
  go_cut [6] from 7 to 43 (fun v wr => ∃ (j : Nat), j ≤ n ∧ j ≤ 500 ∧ Hid (Met w wr p1 m1 m1 p2 m2 m2 w2.heap.size v (onceOf (cs.take j))))
  case first =>
    go_wp2_with fail
    go_loopw [6, 7] (fun v i wr => ∃ (j : Nat), i = .int .i64 j ∧ j ≤ n ∧ j ≤ 500 ∧ Hid (Met w wr p1 m1 m1 p2 m2 m2 w2.heap.size v (onceOf (cs.take j)))) (fun _ i _ => n - (intOf i).toNat)
    case atStart =>
      have hz : w.heap.size ≤ w2.heap.size := HC2.out.size
      refine ⟨0, rfl, by omega, by omega, ?_⟩
      show Met _ _ _ _ _ _ _ _ _ _ _
      have hc := ((Chg.refl No w2).alloc (.map #[] 0)).alloc (.cells #[] 28)
      have hrow := ownsRow_lit (B := w.heap.size) (w := w2.alloc (.map #[] 0)) (cs := []) (e := 28) (size := 12) 0 (by rw [World.size_alloc]; omega) (Nat.zero_le _) rfl
      rw [World.size_alloc] at hrow
      exact ⟨(IsMap.made _ _ _ _ w2).chgNo ((Chg.refl No _).alloc _), hrow, HL1'.out.chgNo hc, HL2.out.chgNo hc, HC2.out.trans hc⟩
    case round =>
      obtain ⟨j, rfl, hj, hj5, hmet⟩ := hrel
      clear HL1' HL1 HL2 hmm
      by_cases hlt : j < n
      · by_cases h5 : j < 500
        · obtain ⟨c, hc⟩ : ∃ c, cs[j]? = some c := ⟨_, List.getElem?_eq_getElem (by rw [HN.out]; exact hlt)⟩
          obtain ⟨b, off, rfl, hcell⟩ := HARG.out (fun e => by rw [e] at hc; simp at hc)
          have hld := load_arg (w := wr) (fun k c hk j u hu => hmet.out.chg.cell (hcell k c hk j u hu) (fun e => e)) hc
          have hl1 : (j : Int) < (n : Int) := by omega
          have hl2 : (j : Int) < 500 := by omega
          have HCELL := hid hcell
          have HC := hid hc
          have HJ := hid (And.intro hlt h5)
          clear hcell hc hlt h5 hj hj5
          go_wp2_with (refine st_ld rfl rfl rfl hld ?_)
          have hkw : c.key.wf := HH.out.wf c (List.mem_of_getElem? HC.out)
          refine (refkey_any c wr).mono ?_
          rintro e wk ⟨rfl, hck⟩
          obtain ⟨k, hk⟩ : ∃ k, c.key = k := ⟨_, rfl⟩
          rw [hk] at hkw ⊢
          have hmk := hmet.out.chgNo (hck.trans ((Chg.refl No wk).alloc (.cells #[.int .i64 k.t, .int .i64 k.p, .int .i64 k.s] 40)))
          have hlook := met_look hmk k hkw
          have hos := onceOf_take HC.out
          unfold addOnce at hos
          rw [hk] at hos
          obtain ⟨hb, hhb⟩ : ∃ hb, hask ((onceOf (cs.take j)).map fun c => (c.key, true)) k = hb := ⟨_, rfl⟩
          rw [hhb] at hlook hos
          obtain ⟨os, hos0⟩ : ∃ os, onceOf (cs.take j) = os := ⟨_, rfl⟩
          have hol : os.length ≤ 500 := by have h1 := onceOf_len (cs.take j); have h2 := HJ.out.2; rw [hos0, List.length_take] at h1; omega
          have HOL := hid hol
          clear hol
          rw [hos0] at hmk hos hhb
          have HMK := hid hmk
          have HOS := hid hos
          have HHB := hid hhb
          have HK := hid hk
          have HKW := hid hkw
          have HCK := hid hck
          have HMET := hid hmet
          clear hmk hos hhb hk hkw hck hmet hld hos0
          unfold Key.val at hlook ⊢
          have HLOOK := hid hlook
          cases hb with
          | true =>
            clear hlook
            go_wp2_with (refine st_lk rfl rfl rfl rfl HLOOK.out ?_)
            exact ⟨⟨j + 1, by go_num, by have := HJ.out; omega, by have := HJ.out; omega, by
              have := HOS.out
              rw [if_pos trivial] at this
              rw [this]
              exact HMK.out⟩, by have := HJ.out; simp [intOf]; omega⟩
          | false =>
            clear hlook
            obtain ⟨w4, hup, hm4, hr4, hx4, hy4, hc4, _⟩ := met_put HMK.out c (by rw [HK.out]; exact HKW.out) (by rw [HK.out]; exact HHB.out) HNE.out.2.2 HNE.out.1 HNE.out.2.1
            rw [HK.out] at hup
            unfold Key.val at hup
            have hld4 := load_arg (w := w4) (fun k c hk j u hu => hc4.cell (HCELL.out k c hk j u hu) (fun e => e)) HC.out
            have hz4 := hc4.size
            have HUP := hid hup
            have HM4 := hid hm4
            have HR4 := hid hr4
            have HX4 := hid hx4
            have HY4 := hid hy4
            have HC4 := hid hc4
            have HLD4 := hid hld4
            have HZ4 := hid hz4
            clear hup hm4 hr4 hx4 hy4 hc4 hld4 hz4
            obtain ⟨⟨t, pl, s, kd, ua, un, uc, x, y, ww, hh, id, cl, sz⟩, us⟩ := c
            unfold Cmd.val CmdV.val CmdV.cells at HLD4
            dsimp only at HLD4
            have hown := ownsRow_chg HR4.out ((Chg.refl No w4).alloc (.cells #[.int .i64 t, .int .i64 pl, .int .i64 s, .int .i64 kd, .slice ua un uc, .int .i64 x, .int .i64 y, .int .i64 ww, .int .i64 hh, .int .i64 id, .int .i64 cl, .int .i64 sz] 28)) (fun _ _ e => e)
            have hrd := Rd.new w4 [.int .i64 t, .int .i64 pl, .int .i64 s, .int .i64 kd, .slice ua un uc, .int .i64 x, .int .i64 y, .int .i64 ww, .int .i64 hh, .int .i64 id, .int .i64 cl, .int .i64 sz] 28
            have HOWN := hid hown
            have HRD := hid hrd
            clear hown hrd
            go_wp2_with (first | (refine st_lk rfl rfl rfl rfl HLOOK.out ?_) | (refine st_mu rfl rfl rfl rfl rfl HUP.out ?_) | (refine st_ld rfl rfl rfl HLD4.out ?_) | (at_builtin; refine st_append Try.E33 rfl rfl HOWN.out rfl HRD.out rfl rfl (by simp [Value.oneCell']) (by have := HOL.out; omega) (by rw [World.size_alloc]; have := HZ4.out; omega) ?_; intro v5 w5 hown5 hgrow hnil; refine Hid.out ?_))
            have hmore := met_more (c := ⟨⟨t, pl, s, kd, ua, un, uc, x, y, ww, hh, id, cl, sz⟩, us⟩) HM4.out HR4.out HX4.out HY4.out HC4.out hgrow hown5
            have HMORE := hid hmore
            clear hmore hown5 hgrow hnil
            refine hid ?_
            go_wp2_with fail
            exact ⟨⟨j + 1, by go_num, by have := HJ.out; omega, by have := HJ.out; omega, by
              have := HOS.out
              rw [if_neg (by simp)] at this
              rw [this]
              exact HMORE.out⟩, by have := HJ.out; simp [intOf]; omega⟩
        · have h5' : ¬ (j : Int) < 500 := by omega
          have hl1 : (j : Int) < (n : Int) := by omega
          have HMET := hid hmet
          clear hmet
          go_wp2_with fail
          go_meet
          exact ⟨j, hj, hj5, HMET.out⟩
      · have hl1 : ¬ (j : Int) < (n : Int) := by omega
        have HMET := hid hmet
        clear hmet
        go_wp2_with fail
        go_meet
        exact ⟨j, hj, hj5, HMET.out⟩
  case rest =>
    obtain ⟨j, hj, hj5, hmet⟩ := hcut
    obtain ⟨os, hos⟩ : ∃ os, onceOf (cs.take j) = os := ⟨_, rfl⟩
    rw [hos] at hmet
    have hol : os.length ≤ 500 := by have h1 := onceOf_len (cs.take j); rw [hos, List.length_take] at h1; omega
    have hnd : (os.map Cmd.key).Nodup := by rw [← hos]; exact onceOf_nodup _
    have hall : ∀ c ∈ os, c.ok w ∧ c.key.wf ∧ c.us.length * 8 ≤ 140737488355328 := fun c hc => by
      rw [← hos] at hc
      have hm := List.mem_of_mem_take (onceOf_sub hc)
      exact ⟨HH.out.ok c hm, HH.out.wf c hm, HH.out.lim c hm⟩
    have hm1 : w.heap.size ≤ m1 := by rw [← HP1.out.2]; exact HC0.out.size
    have hm2 : w.heap.size ≤ m2 ∧ m1 < m2 := by
      have h1 := HL1.out.map.lt
      have h2 := HP2.out.2
      omega
    have hfed : Fed w wc p1 m1 p2 m2 u6 os 0 0 := ⟨hmet.out.row, ⟨[], hmet.out.lx, rfl⟩, ⟨[], hmet.out.ly, rfl⟩, hmet.out.chg⟩
    obtain ⟨ad, cp, rfl, _⟩ := Sl.ofOwns hmet.out.row
    obtain ⟨N, hN⟩ : ∃ N, os.length = N := ⟨_, rfl⟩
    rw [hN] at hfed hol ⊢
    have HFED := hid hfed
    have HOL := hid hol
    have HND := hid hnd
    have HALL := hid hall
    have HM := hid (show w.heap.size ≤ m1 ∧ w.heap.size ≤ m2 ∧ m1 < m2 from ⟨hm1, hm2⟩)
    have HNN := hid hN
    clear hfed hol hnd hall hm1 hm2 hN hmet hos HL1' HL1 HL2 HARG HH HN HC2 HNE HP1 HP2 HC0 hj hj5 hmm
    go_wp2_with fail
    go_loopw [9] (fun i wr => ∃ (k : Nat), i = .int .i64 k ∧ k ≤ N ∧ Hid (Fed w wr p1 m1 p2 m2 (.slice ad N cp) os k k)) (fun i _ => N - (intOf i).toNat)
    case atStart => exact ⟨0, rfl, by omega, HFED⟩
    case round =>
      clear HFED
      obtain ⟨k, rfl, hk, hfed⟩ := hrel
      by_cases hlt : k < N
      · have hl1 : (k : Int) < (N : Int) := by omega
        obtain ⟨r, hr⟩ : ∃ r, N = k + 1 + r := ⟨N - (k + 1), by omega⟩
        obtain ⟨c, hc⟩ : ∃ c, os[k]? = some c := ⟨_, List.getElem?_eq_getElem (by rw [HNN.out]; exact hlt)⟩
        obtain ⟨d, hd⟩ : ∃ d, os[r]? = some d := ⟨_, List.getElem?_eq_getElem (by rw [HNN.out]; omega)⟩
        have hd' : os.reverse[k]? = some d := by
          rw [List.getElem?_reverse (by rw [HNN.out]; exact hlt), HNN.out, show N - 1 - k = r by omega]; exact hd
        have hidx : (N : Int) - 1 - (k : Int) = (r : Int) := by omega
        have hrow := hfed.out.row
        rw [HNN.out] at hrow
        obtain ⟨g, hg⟩ : ∃ g, ad = some ⟨g, 0, none⟩ := by
          rcases hrow.2 with ⟨e, h0⟩ | ⟨g, _, _, e, _⟩
          · omega
          · simp only [Value.slice.injEq] at e; exact ⟨g, e.1⟩
        subst hg
        have hld := load_row hrow (k * 12) c.row (fun j v hv => row_at hc j v hv) Try.underlying28 (by kernel_rfl)
        obtain ⟨o1, o2, o3⟩ := HALL.out c (List.mem_of_getElem? hc)
        obtain ⟨q1, q2, q3⟩ := HALL.out d (List.mem_of_getElem? hd)
        have hx := hfed.out.x HND.out (by rw [HNN.out]; exact HOL.out) hc o1 o2 o3 HM.out.1 (by have := HM.out; omega)
        have hN500 : (N : Int) ≤ 500 := by have := HOL.out; omega
        have hr500 : (r : Int) ≤ 500 ∧ r < N := by omega
        have HX := hid hx
        have HLD := hid (show (Instr.loadAt 28 (.pointer (some ⟨g, k * 12, none⟩))).run Try.prog wr = .ok c.val wr from hld)
        have HQ := hid (And.intro q1 (And.intro q2 q3))
        have HD := hid hd
        have HD' := hid hd'
        have HR := hid hr
        clear hx hld q1 q2 q3 o1 o2 o3 hd hd' hr hrow hc hlt hfed hk
        go_wp2_with (refine st_ld rfl rfl rfl HLD.out ?_)
        refine HX.out.mono ?_
        rintro e w4 ⟨rv, rfl, hfed4⟩
        have hrow4 := hfed4.row
        rw [HNN.out] at hrow4
        have hld4 := load_row hrow4 (r * 12) d.row (fun j v hv => row_at HD.out j v hv) Try.underlying28 (by kernel_rfl)
        have HLD4 := hid (show (Instr.loadAt 28 (.pointer (some ⟨g, r * 12, none⟩))).run Try.prog w4 = .ok d.val w4 from hld4)
        have hy := hfed4.y HND.out (by rw [HNN.out]; exact HOL.out) HD'.out HQ.out.1 HQ.out.2.1 HQ.out.2.2 HM.out.2.1 (by have := HM.out; omega)
        have HY := hid hy
        clear hrow4 hld4 hy hfed4 HX HLD
        go_wp2_with (refine st_ld rfl rfl rfl HLD4.out ?_)
        refine HY.out.mono ?_
        rintro e w5 ⟨rv', rfl, hfed5⟩
        have HF5 := hid hfed5
        clear hfed5 HY HLD4
        go_wp2_with fail
        exact ⟨⟨k + 1, by go_num, by have := HR.out; omega, HF5⟩, by have := HR.out; simp [intOf]; omega⟩
      · have hl1 : ¬ (k : Int) < (N : Int) := by omega
        have hkN : k = N := by omega
        obtain ⟨h1, ⟨L1, h2, h3⟩, ⟨L2, h4, h5⟩, h6⟩ := hfed.out
        rw [hkN, ← HNN.out, List.take_length] at h3
        rw [hkN, ← HNN.out, List.take_of_length_le (by rw [List.length_reverse]; exact Nat.le_refl _)] at h5
        have hl := h3.len
        have hl' := h5.len
        rw [List.length_reverse] at hl'
        rw [HNN.out] at hl hl'
        have hb500 := HOL.out
        have hf1 := from_any h2 0 (by omega)
        have hf2 := fun W (hc : Chg No wr W) => from_any (h4.chgNo hc) 0 (by omega)
        have hle1 := fun W (hc : Chg No wr W) => len_any (h2.chgNo hc)
        have hle2 := fun W (hc : Chg No wr W) => len_any (h4.chgNo hc)
        have HS := hid (fun cs1 cs2 e1 e2 => fed_same (cs1 := cs1) (cs2 := cs2) h3 h5 h2.map.nodup e1 e2)
        have HF1 := hid hf1
        have HF2 := hid hf2
        have HE1 := hid hle1
        have HE2 := hid hle2
        have HC := hid h6
        have HB := hid (And.intro hl hb500)
        clear h1 h2 h3 h4 h5 h6 hl hl' hb500 hf1 hf2 hle1 hle2 hfed
        clear hkN hk hlt
        go_wp2_with fail
        refine HF1.out.mono ?_
        rintro e wa ⟨va, cs1, rfl, hcs1, he1, hca⟩
        have HCS1 := hid hcs1
        have HEQ1 := hid he1
        have HCA := hid hca
        clear hcs1 he1 hca
        go_wp2_with fail
        refine (HF2.out wa HCA.out).mono ?_
        rintro e wb ⟨vb, cs2, rfl, hcs2, he2, hcb⟩
        obtain ⟨habs, hlen⟩ := HS.out cs1 cs2 HEQ1.out he2
        have hl1' : cs1.length ≤ N := by
          have e := congrArg List.length HEQ1.out
          rw [List.length_map, List.length_map] at e
          unfold ksort at e
          rw [List.length_mergeSort] at e
          have h2 := List.length_filter_le (fun k : Key => decide ((0 : Int) ≤ k.t)) (L1.map Prod.fst)
          rw [List.length_map] at h2
          have := HB.out.1
          omega
        have hsl := samelist_any (HCS1.out.chgNo hcb) hcs2 habs (fun c hc => by
          obtain ⟨_, _, _, h1, h2, _⟩ := Sl.ofOwns (HCS1.out.own c hc)
          simp only [maxLen] at h2
          omega) (by have := HB.out.2; omega)
        have hE1 := HE1.out
        rw [hlen] at hE1
        have HSL := hid hsl
        have HE1' := hid hE1
        have HCB := hid (HCA.out.trans hcb)
        clear hcs2 he2 hcb habs hlen hl1' hsl hE1 HE1 HS HF1 HF2 HEQ1 HCS1
        go_wp2_with fail
        refine HSL.out.mono ?_
        rintro e wd ⟨rfl, hcd⟩
        have HCD := hid (HCB.out.trans hcd)
        clear hcd
        go_wp2_with fail
        refine (HE1'.out wd HCD.out).mono ?_
        rintro e we ⟨rfl, rfl⟩
        go_wp2_with fail
        refine (HE2.out wd HCD.out).mono ?_
        rintro e we ⟨rfl, rfl⟩
        go_wp2_with fail
        refine (awake_any wd).mono ?_
        rintro e we ⟨rfl, hce⟩
        go_wp2_with fail
        go_ret
        exact ⟨rfl, (HC.out.trans HCD.out).trans hce⟩
end Go.Proofs.Ytfpmgcpdjlkomaa
