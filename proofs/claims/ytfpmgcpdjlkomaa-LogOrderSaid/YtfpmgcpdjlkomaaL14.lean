/- From: the iterator over a log, walked with whatever body it is given that keeps the record. -/
import Derived.Test.YtfpmgcpdjlkomaaL11
import Derived.RangeFuncNested
import Derived.RangeFuncBound
import Derived.RangeFuncCalls
import Derived.RangeFuncLeaves
import Derived.RangeFuncRecord
import Derived.Shelf.Abstract
import Derived.Shelf.RegionOpen
import Derived.WalkKit
import Derived.OwnWalkIn
import Derived.TacticsInMore
import Derived.LoopNIn
import Derived.LoopIn
namespace Go.Proofs.Ytfpmgcpdjlkomaa
open Go.RowKit Go.Px Go.Proofs Go.Shelf
open Go.Maps (Keyed)
attribute [local go_sem] Oper.semAt_some
set_option maxHeartbeats 400000
set_option maxRecDepth 100000

theorem From_any (pl : Option Addr) (tick : Int) (w : World) : Calls Try.prog 27 #[.pointer pl, .int .i64 tick] w fun e w' => e = .returned (.func (.func 35) #[] #[.pointer (some ⟨w.heap.size, 0, none⟩), .pointer (some ⟨w.heap.size + 1, 0, none⟩)]) ∧ w' = (w.alloc (.cells #[.pointer pl] 29)).alloc (.cells #[.int .i64 tick] 3) := by
  go_enter Try.func27, Try.ntmps27
  go_wp2_with fail
  go_ret
  exact ⟨rfl, rfl⟩

theorem Chg.putObj {S : Nat → Prop} {a w : World} (h : Chg S a w) (r : Nat) (o : Obj) (hp : r < a.heap.size → S r) : Chg S a (w.putObj r o) :=
  ⟨h.os, h.tape, h.output, by simpa [World.putObj] using h.size, fun k hk hn => by
    have : k ≠ r := fun e => hn (by subst e; exact hp hk)
    rw [World.putObj_heap_other this]
    exact h.block k hk hn⟩

def ftm (pl : Option Addr) (tick : Int) (bo : Nat) (s7 f10 x : Value) : Array Value :=
  #[.pointer pl, .int .i64 tick, undef, undef, .slice none 0 0, .pointer (some ⟨bo, 0, none⟩), undef, s7, .pointer pl, .int .i64 tick, f10, x, undef, undef, undef, undef, undef]

/-- Between two rounds: out holds the commands that have come; the record; the block for deferred calls. -/
structure Mid (r : Loop) (n0 bo l D : Nat) (v : Value) (cs : List Cmd) (W : World) : Prop where
  box : Blk W bo #[v] 33
  row : CmdsIs W n0 v cs
  L : W.heap[l]? = some (.loop r)
  K : W.heap[D]? = some (.deferred (some []))

def RoundOk (assign body : Code) : Prop :=
  ∀ (m : Nat) (l D bo n0 : Nat) (fn : FuncId) (pl : Option Addr) (tick : Int) (s7 f10 v : Value) (cs : List Cmd) (c : Cmd) (W : World) (r : Loop), r.state = .ready → r.pending = none →
    Mid r n0 bo l D v cs W → W.ownsRow n0 3 1 c.v.units c.us.length c.cells → n0 ≤ W.heap.size → (cs.length + 1) * 112 ≤ 140737488355328 →
    RoundIn Fence.wide m Try.prog l fn (ftm pl tick bo s7 f10 c.val) assign body W fun e W' => e = .returned (.bool true) ∧ ∃ v', Mid r n0 bo l D v' (cs ++ [c]) W' ∧ Chg (fun j => j = l ∨ j = bo ∨ v.ownBlock = some j) W W'

/-- 'append(s, x...)' in a fenced walk, s owned, x read. -/
theorem sti_append {F : Fence} {nf : Nat} {P : Program} {w : World} {ops : Array Oper} {rest : List Oper} {o : Oper} {a : Act} {Q : Exit → Act → World → Prop} {t e : TypeId} {z : Value} {size bytes : Nat} (I : EI P t e z size bytes) (hgd : o.guard = none) {s x : Operand} (ho : o.op = .call { callee := .builtin .append, args := #[s, x], argTypes := #[t, t] })
    {B : Nat} {v : Value} {n : Nat} {xs : List Value} (hown : w.ownsRow B e size v n xs) (hs : a.eval s = v) {ad : Addr} {m c : Nat} {news : List Value} (hnews : Rd w ad news) (hx : a.eval x = .slice (some ad) m c) (hl : news.length = m * size) (h1 : ∀ u ∈ news, u.oneCell' = true)
    (hlim : (n + m) * bytes ≤ 140737488355328) (hB : B ≤ w.heap.size)
    (h : ∀ v' w', w'.ownsRow B e size v' (n + m) (xs ++ news) → w.grownBy w' v.ownBlock → wpListIn F nf P ops Q rest (a.put o.dst v') w') : wpListIn F nf P ops Q (o :: rest) a w := by
  obtain ⟨i0, hi, hz0, hz1, hz2⟩ := info_parts I.info
  refine wpListIn_append_own w hgd s x t ho B e i0 z size bytes I.ht hi hz0 hz1 hz2 I.zs I.pos v n xs hs hown ad m c news hx hl hnews h1 ?_ hlim hB (fun v' w' a b _ => h v' w' a b)
  have := I.bpos
  have h2 : n + m ≤ (n + m) * bytes := Nat.le_mul_of_pos_right _ this
  simp only [maxLen]
  omega

theorem vstep {F : Fence} {nf : Nat} {P : Program} {ops : Array Oper} {Q : Exit → Act → World → Prop} {fuel : Nat} {listed : Array Bool} {a : Act} {w : World} {o : Oper} {v : Value} {K' : Act → World → Prop} (hrun : (execOp a.eval o).run P w = .ok (.value v) w) (hro : F.round = none)
    (hK : ∀ a w, wpAnyIn F nf P .any ops Q fuel listed a w → K' a w) (hw : Region.wanted o (yielded ops a.tmps) = true) (hab : o.about P w a.eval = none) (h : wpAnyIn F nf P .any ops Q fuel listed (a.put o.dst v) w) :
    if Region.wanted o (yielded ops a.tmps) = true then Oper.wpIn F nf P o a w K' Q else (∀ f, o.about P w a.eval = some f → F.fn f) ∧ K' (a.put o.dst undef) w := by
  rw [if_pos hw]
  unfold Oper.wpIn
  refine ⟨fun f hf => (by rw [hab] at hf; cases hf), ?_⟩
  rw [hro, Oper.semAt_none, hrun]
  exact hK _ _ h

theorem exec_nilCheck {P : Program} {d : Option Tmp} {x : Operand} {t : TypeId} {pos : String} {after : Array Edge} {g : Option (Nat × Bool)} {a : Act} {ad : Addr} {w : World} (hx : a.eval x = .pointer (some ad)) :
    (execOp a.eval ⟨d, .nilCheck x, t, pos, after, g⟩).run P w = .ok (.value (.pointer (some ad))) w := by simp [execOp, hx]

theorem exec_fieldAddr {P : Program} {d : Option Tmp} {x : Operand} {t ty : TypeId} {f : Nat} {pos : String} {after : Array Edge} {g : Option (Nat × Bool)} {a : Act} {v u : Value} {w : World} (hx : a.eval x = v) (hrun : (Instr.fieldAt ty v f).run P w = .ok u w) :
    (execOp a.eval ⟨d, .fieldAddr ty x f, t, pos, after, g⟩).run P w = .ok (.value u) w := by simp [execOp, hx, hrun]

theorem exec_lookup {P : Program} {d : Option Tmp} {x y : Operand} {t ty : TypeId} {c : Bool} {pos : String} {after : Array Edge} {g : Option (Nat × Bool)} {a : Act} {v u r : Value} {w : World} (hx : a.eval x = v) (hy : a.eval y = u) (hrun : (Instr.lookup ty v u c).run P w = .ok r w) :
    (execOp a.eval ⟨d, .lookup ty x y c, t, pos, after, g⟩).run P w = .ok (.value r) w := by simp [execOp, hx, hy, hrun]

theorem cstep {F : Fence} {nf : Nat} {P : Program} {ops : Array Oper} {Q : Exit → Act → World → Prop} {a : Act} {w : World} {o : Oper} {K' : Act → World → Prop} (hw : Region.wanted o (yielded ops a.tmps) = true) (h : Oper.wpIn F nf P o a w K' Q) :
    if Region.wanted o (yielded ops a.tmps) = true then Oper.wpIn F nf P o a w K' Q else (∀ f, o.about P w a.eval = some f → F.fn f) ∧ K' (a.put o.dst undef) w := by
  rw [if_pos hw]; exact h

theorem with_key {F : Fence} {nf : Nat} {P : Program} {ops : Array Oper} {Q : Exit → Act → World → Prop} {fuel : Nat} {listed : Array Bool} {a : Act} {w : World} (fuel' : Nat) (listed' : Array Bool) (a' : Act)
    (h : wpAnyIn F nf P .any ops Q fuel' listed' a' w → wpAnyIn F nf P .any ops Q fuel listed a w) (k : wpAnyIn F nf P .any ops Q fuel' listed' a' w) : wpAnyIn F nf P .any ops Q fuel listed a w := h k

set_option maxHeartbeats 8000000 in
theorem iter_walk {assign body : Code} (hR : RoundOk assign body) {w0 : World} {bo l D Bl Bt : Nat} {fn : FuncId} {pl : Option Addr} {tick : Int} {s7 f10 v0 : Value} {r : Loop} {W : World} {ks : List Key} {L : List (Key × Cmd)}
    (hst : r.state = .ready) (hpe : r.pending = none) (hfn : r.fn = fn) (htm : r.tmps = ftm pl tick bo s7 f10 undef) (hpa : r.params = #[11]) (has : r.assign = assign) (hbo : r.body = body)
    (hM : Mid r w0.heap.size bo l D v0 [] W) (hbl : Blk W Bl #[.pointer pl] 29) (hbt : Blk W Bt #[.int .i64 tick] 3) (hn0 : w0.heap.size ≤ bo) (hl0 : w0.heap.size ≤ l) (hch : Chg No w0 W)
    (hkeys : Calls Try.prog 25 #[.pointer pl, .func (.func 36) #[] #[.pointer (some ⟨Bt, 0, none⟩)]] W fun e w' => ∃ v, e = .returned v ∧ w'.ownsRow W.heap.size 40 3 v ks.length (kcells ks) ∧ Chg No W w')
    (hsrc : ks ≠ [] → ∃ p m B first, pl = some ⟨p, 0, none⟩ ∧ LogIs w0 p m B first L) (hks : ∀ q ∈ ks, q ∈ L.map Prod.fst) (hlim : ks.length * 112 ≤ 140737488355328) :
    CallsIn Fence.wide 9 Try.prog 35 #[.func (.yield l) #[] #[], .pointer (some ⟨Bl, 0, none⟩), .pointer (some ⟨Bt, 0, none⟩)] W fun e W' => (∃ v, e = .returned v) ∧
      ∃ v cs, Mid r w0.heap.size bo l D v cs W' ∧ cs.map (fun c => some c.abs) = ks.map (fun q => (get L q).map Cmd.abs) ∧ Chg No w0 W' := by
  refine callsIn_of_wp Try.func35 rfl trivial ?_ rfl
  simp only [Try.ntmps35, List.size_toArray, List.length_cons, List.length_nil, Nat.reduceAdd, Nat.reduceSub, Array.replicate_succ, Array.replicate_zero, List.push_toArray, List.append_toArray, List.nil_append, List.cons_append]
  have c1 : W.cell? ⟨Bl, 0, none⟩ = some (.pointer pl) := hbl.c 0 rfl
  have hmf : ∀ (fn : Fn) (first cap : Array Value) (w : World), (Instr.makeFunc fn first cap).run Try.prog w = .ok (.func fn first cap) w := fun _ _ _ _ => rfl
  gi_wp2
  refine ⟨trivial, callsIn_wide.2 (hkeys.mono ?_)⟩
  rintro e W1 ⟨v, rfl, hown, hch1⟩
  obtain ⟨n, hn⟩ : ∃ n, ks.length = n := ⟨_, rfl⟩
  rw [hn] at hown hlim
  obtain ⟨ad, cap, hv⟩ : ∃ ad cap, v = .slice ad n cap := by obtain ⟨ad, cap, e, _⟩ := Sl.ofOwns hown; exact ⟨ad, cap, e⟩
  subst hv
  have HN := hid hn
  have hM1 : Mid r w0.heap.size bo l D v0 [] W1 := ⟨hM.box.chgNo hch1, hM.row.chgNo hch1, hch1.heap hM.L (fun e => e), hch1.heap hM.K (fun e => e)⟩
  have hbl1 := hbl.chgNo hch1
  have hbt1 := hbt.chgNo hch1
  have hw1 : Chg No w0 W1 := hch.trans hch1
  have hown1 := ownsRow_mono hown (B' := w0.heap.size) hch.size
  have HM1 := hid hM1
  have HBL1 := hid hbl1
  have HBT1 := hid hbt1
  have HW1 := hid hw1
  have HOWN1 := hid hown1
  have HSRC := hid hsrc
  have HKS := hid hks
  clear hM hbl hbt hch hkeys hown hch1 hM1 hbl1 hbt1 hw1 hown1 c1 hn hsrc hks
  gi_wp2
  gi_loopw [10] (fun i wr => ∃ (k : Nat) (v : Value) (cs : List Cmd), i = .int .i64 k ∧ k ≤ n ∧ Mid r w0.heap.size bo l D v cs wr ∧ Hid (cs.length = k) ∧ Hid (cs.map (fun c => some c.abs) = (ks.take k).map (fun q => (Px.get L q).map Cmd.abs)) ∧ Blk wr Bl #[.pointer pl] 29 ∧ Blk wr Bt #[.int .i64 tick] 3 ∧ wr.ownsRow w0.heap.size 40 3 (.slice ad n cap) n (kcells ks) ∧ Chg No w0 wr) (fun i _ => n - (intOf i).toNat)
  case atStart => exact ⟨0, v0, [], rfl, Nat.zero_le _, HM1.out, rfl, rfl, HBL1.out, HBT1.out, HOWN1.out, HW1.out⟩
  case round =>
    clear HM1 HBL1 HBT1 HOWN1 HW1
    obtain ⟨k, v, cs, rfl, hk, hM, hcl, habs, hbl, hbt, hkr, hch⟩ := hrel
    by_cases hlt : k < n
    · have hne : ∃ g, ad = some ⟨g, 0, none⟩ := by
        rcases hkr.2 with ⟨e, h0⟩ | ⟨g, _, _, e, _⟩
        · simp only [Value.slice.injEq] at e; omega
        · simp only [Value.slice.injEq] at e; exact ⟨g, e.1⟩
      obtain ⟨g, rfl⟩ := hne
      obtain ⟨q, hq⟩ : ∃ q, ks[k]? = some q := ⟨_, List.getElem?_eq_getElem (by rw [HN.out]; exact hlt)⟩
      obtain ⟨p, m, B, first, rfl, hlog0⟩ := HSRC.out (by intro e; rw [e] at hq; simp at hq)
      have hlog := hlog0.chgNo hch
      obtain ⟨g0, g1, g2⟩ := kcells_get hq
      have c0 := (hkr.cellAt (k * 3) (by omega)).trans g0
      have c1 := (hkr.cellAt (k * 3 + 1) (by omega)).trans g1
      have c2 := (hkr.cellAt (k * 3 + 2) (by omega)).trans g2
      obtain ⟨c, hgc, hmc, _⟩ := look_mem hlog.map (HKS.out q (List.mem_of_getElem? hq))
      obtain ⟨q1, q2, q3⟩ := q
      have HQ := hid hq
      have HGC := hid hgc
      have HLOG := hid hlog
      have HKR := hid hkr
      have HM := hid hM
      have HBL := hid hbl
      have HBT := hid hbt
      have HCH := hid hch
      have HMC := hid hmc
      clear hq g0 g1 g2 hgc hlog hkr hM hbl hbt hlog0 hmc hch
      gi_wp2
      have hch2 : Chg No wr ((wr.alloc (.cells #[.int .i64 q1, .int .i64 q2, .int .i64 q3] 40)).drew) := ((Chg.refl No wr).alloc _).drew
      have bk : Blk ((wr.alloc (.cells #[.int .i64 q1, .int .i64 q2, .int .i64 q3] 40)).drew) wr.heap.size #[.int .i64 q1, .int .i64 q2, .int .i64 q3] 40 := Blk.new _ _ _
      refine wpIn_region_any (by kernel_rfl) ?_
      change wpAnyIn _ _ _ _ _ _ 10 #[false, false, false, false, false, false, false, false, false, false] _ ((wr.alloc (.cells #[.int .i64 q1, .int .i64 q2, .int .i64 q3] 40)).drew)
      obtain ⟨w2, hw2⟩ : ∃ w2, ((wr.alloc (.cells #[.int .i64 q1, .int .i64 q2, .int .i64 q3] 40)).drew) = w2 := ⟨_, rfl⟩
      rw [hw2] at hch2 bk ⊢
      clear hw2
      have hl1 : (Instr.loadAt 29 (.pointer (some ⟨Bl, 0, none⟩))).run Try.prog w2 = .ok (.pointer (some ⟨p, 0, none⟩)) w2 := by
        have := (HBL.out.chgNo hch2).c 0 rfl
        go_simp
      have hf3 : (Instr.fieldAt 61 (.pointer (some ⟨p, 0, none⟩)) 1).run Try.prog w2 = .ok (.pointer (some ⟨p, 1, none⟩)) w2 := by go_simp
      have hl4 : (Instr.loadAt 59 (.pointer (some ⟨p, 1, none⟩))).run Try.prog w2 = .ok (.map (some m)) w2 := by
        have := (HLOG.out.chgNo hch2).blk.c 1 rfl
        go_simp
      have hl5 : (Instr.loadAt 40 (.pointer (some ⟨wr.heap.size, 0, none⟩))).run Try.prog w2 = .ok (.agg #[.int .i64 q1, .int .i64 q2, .int .i64 q3]) w2 := load_blk bk Try.underlying40 (by kernel_rfl)
      have hl6 : (Instr.lookup 59 (.map (some m)) (.agg #[.int .i64 q1, .int .i64 q2, .int .i64 q3]) false).run Try.prog w2 = .ok c.val w2 := by
        obtain ⟨l', hl'⟩ := HLOG.out.map.good _ HMC.out
        exact ((HLOG.out.map.chgNo hch2).look_some Try.keyed Key.inj Try.u59 zero28 ⟨q1, q2, q3⟩ hl' HGC.out).2
      refine wpAnyIn_take (i := 0) rfl rfl (by kernel_rfl) (by kernel_rfl) (by kernel_rfl) (fun c a w h => h) ⟨.inl ⟨rfl, fun w => rfl⟩, fun w => rfl⟩ ?_
      change wpAnyIn _ _ _ _ _ _ 9 #[true, false, false, false, false, false, false, false, false, false] _ _
      go_frame
      refine with_key 4 #[true, true, true, true, true, true, false, false, false, false] { tmps := #[.func (.yield l) #[] #[], .pointer (some ⟨Bl, 0, none⟩), .pointer (some ⟨Bt, 0, none⟩), undef, undef, .pointer (some ⟨wr.heap.size, 0, none⟩), .pointer (some ⟨p, 0, none⟩), .func (.func 36) #[] #[.pointer (some ⟨Bt, 0, none⟩)], .slice (some ⟨g, 0, none⟩) n cap, .int .i64 n, .int .i64 k, .bool true, .pointer (some ⟨g, k * 3, none⟩), .agg #[.int .i64 q1, .int .i64 q2, .int .i64 q3], .func (.yield l) #[] #[], .pointer (some ⟨p, 0, none⟩), .pointer (some ⟨p, 0, none⟩), .pointer (some ⟨p, 1, none⟩), .map (some m), .agg #[.int .i64 q1, .int .i64 q2, .int .i64 q3], u20, u21, u22, u23, u24], defers := [] } (fun key => ?_) ?_
      · clear HBL HBT HCH HLOG HM HKR c0 c1 c2
        refine wpAnyIn_ready (rs := [1, 5]) (by kernel_rfl) (by simp) (AllReadyIn.cons rfl (fun _ hK => vstep (exec_load rfl hl1) rfl hK rfl rfl ?_) (AllReadyIn.cons rfl (fun _ hK => vstep (exec_load rfl hl5) rfl hK rfl rfl ?_) AllReadyIn.nil))
        · change wpAnyIn _ _ _ _ _ _ 8 #[true, true, false, false, false, false, false, false, false, false] _ _
          go_frame
          refine wpAnyIn_ready (rs := [2, 5]) (by kernel_rfl) (by simp) (AllReadyIn.cons rfl (fun _ hK => vstep (exec_nilCheck (ad := ⟨p, 0, none⟩) rfl) rfl hK rfl rfl ?_) (AllReadyIn.cons rfl (fun _ hK => vstep (exec_load rfl hl5) rfl hK rfl rfl ?_) AllReadyIn.nil))
          · change wpAnyIn _ _ _ _ _ _ 7 #[true, true, true, false, false, false, false, false, false, false] _ _
            go_frame
            refine wpAnyIn_ready (rs := [3, 5]) (by kernel_rfl) (by simp) (AllReadyIn.cons rfl (fun _ hK => vstep (exec_fieldAddr (v := .pointer (some ⟨p, 0, none⟩)) rfl hf3) rfl hK rfl rfl ?_) (AllReadyIn.cons rfl (fun _ hK => vstep (exec_load rfl hl5) rfl hK rfl rfl ?_) AllReadyIn.nil))
            · change wpAnyIn _ _ _ _ _ _ 6 #[true, true, true, true, false, false, false, false, false, false] _ _
              go_frame
              refine wpAnyIn_ready (rs := [4, 5]) (by kernel_rfl) (by simp) (AllReadyIn.cons rfl (fun _ hK => vstep (exec_load rfl hl4) rfl hK rfl rfl ?_) (AllReadyIn.cons rfl (fun _ hK => vstep (exec_load rfl hl5) rfl hK rfl rfl ?_) AllReadyIn.nil))
              · change wpAnyIn _ _ _ _ _ _ 5 #[true, true, true, true, true, false, false, false, false, false] _ _
                go_frame
                refine wpAnyIn_ready (rs := [5]) (by kernel_rfl) (by simp) (AllReadyIn.cons rfl (fun _ hK => vstep (exec_load rfl hl5) rfl hK rfl rfl ?_) AllReadyIn.nil)
                change wpAnyIn _ _ _ _ _ _ 4 #[true, true, true, true, true, true, false, false, false, false] _ _
                go_frame
                exact key
              · change wpAnyIn _ _ _ _ _ _ 5 #[true, true, true, true, false, true, false, false, false, false] _ _
                go_frame
                refine wpAnyIn_ready (rs := [4]) (by kernel_rfl) (by simp) (AllReadyIn.cons rfl (fun _ hK => vstep (exec_load rfl hl4) rfl hK rfl rfl ?_) AllReadyIn.nil)
                change wpAnyIn _ _ _ _ _ _ 4 #[true, true, true, true, true, true, false, false, false, false] _ _
                go_frame
                exact key
            · change wpAnyIn _ _ _ _ _ _ 6 #[true, true, true, false, false, true, false, false, false, false] _ _
              go_frame
              refine wpAnyIn_ready (rs := [3]) (by kernel_rfl) (by simp) (AllReadyIn.cons rfl (fun _ hK => vstep (exec_fieldAddr (v := .pointer (some ⟨p, 0, none⟩)) rfl hf3) rfl hK rfl rfl ?_) AllReadyIn.nil)
              change wpAnyIn _ _ _ _ _ _ 5 #[true, true, true, true, false, true, false, false, false, false] _ _
              go_frame
              refine wpAnyIn_ready (rs := [4]) (by kernel_rfl) (by simp) (AllReadyIn.cons rfl (fun _ hK => vstep (exec_load rfl hl4) rfl hK rfl rfl ?_) AllReadyIn.nil)
              change wpAnyIn _ _ _ _ _ _ 4 #[true, true, true, true, true, true, false, false, false, false] _ _
              go_frame
              exact key
          · change wpAnyIn _ _ _ _ _ _ 7 #[true, true, false, false, false, true, false, false, false, false] _ _
            go_frame
            refine wpAnyIn_ready (rs := [2]) (by kernel_rfl) (by simp) (AllReadyIn.cons rfl (fun _ hK => vstep (exec_nilCheck (ad := ⟨p, 0, none⟩) rfl) rfl hK rfl rfl ?_) AllReadyIn.nil)
            change wpAnyIn _ _ _ _ _ _ 6 #[true, true, true, false, false, true, false, false, false, false] _ _
            go_frame
            refine wpAnyIn_ready (rs := [3]) (by kernel_rfl) (by simp) (AllReadyIn.cons rfl (fun _ hK => vstep (exec_fieldAddr (v := .pointer (some ⟨p, 0, none⟩)) rfl hf3) rfl hK rfl rfl ?_) AllReadyIn.nil)
            change wpAnyIn _ _ _ _ _ _ 5 #[true, true, true, true, false, true, false, false, false, false] _ _
            go_frame
            refine wpAnyIn_ready (rs := [4]) (by kernel_rfl) (by simp) (AllReadyIn.cons rfl (fun _ hK => vstep (exec_load rfl hl4) rfl hK rfl rfl ?_) AllReadyIn.nil)
            change wpAnyIn _ _ _ _ _ _ 4 #[true, true, true, true, true, true, false, false, false, false] _ _
            go_frame
            exact key
        · change wpAnyIn _ _ _ _ _ _ 8 #[true, false, false, false, false, true, false, false, false, false] _ _
          go_frame
          refine wpAnyIn_ready (rs := [1]) (by kernel_rfl) (by simp) (AllReadyIn.cons rfl (fun _ hK => vstep (exec_load rfl hl1) rfl hK rfl rfl ?_) AllReadyIn.nil)
          change wpAnyIn _ _ _ _ _ _ 7 #[true, true, false, false, false, true, false, false, false, false] _ _
          go_frame
          refine wpAnyIn_ready (rs := [2]) (by kernel_rfl) (by simp) (AllReadyIn.cons rfl (fun _ hK => vstep (exec_nilCheck (ad := ⟨p, 0, none⟩) rfl) rfl hK rfl rfl ?_) AllReadyIn.nil)
          change wpAnyIn _ _ _ _ _ _ 6 #[true, true, true, false, false, true, false, false, false, false] _ _
          go_frame
          refine wpAnyIn_ready (rs := [3]) (by kernel_rfl) (by simp) (AllReadyIn.cons rfl (fun _ hK => vstep (exec_fieldAddr (v := .pointer (some ⟨p, 0, none⟩)) rfl hf3) rfl hK rfl rfl ?_) AllReadyIn.nil)
          change wpAnyIn _ _ _ _ _ _ 5 #[true, true, true, true, false, true, false, false, false, false] _ _
          go_frame
          refine wpAnyIn_ready (rs := [4]) (by kernel_rfl) (by simp) (AllReadyIn.cons rfl (fun _ hK => vstep (exec_load rfl hl4) rfl hK rfl rfl ?_) AllReadyIn.nil)
          change wpAnyIn _ _ _ _ _ _ 4 #[true, true, true, true, true, true, false, false, false, false] _ _
          go_frame
          exact key
      · refine wpAnyIn_ready (rs := [6]) (by kernel_rfl) (by simp) (AllReadyIn.cons rfl (fun _ hK => vstep (exec_lookup rfl rfl hl6) rfl hK rfl rfl ?_) AllReadyIn.nil)
        change wpAnyIn _ _ _ _ _ _ 3 #[true, true, true, true, true, true, true, false, false, false] _ _
        go_frame
        clear hl1 hf3 hl4 hl5 hl6
        have hlog2 := HLOG.out.chgNo hch2
        have hoc := own_cmd c w2 (Sl.ofOwns (hlog2.own _ HMC.out)) (hlog2.lim _ HMC.out)
        have hw02 : Chg No w0 w2 := HCH.out.trans hch2
        have HM2 : Hid (Mid r w0.heap.size bo l D v cs w2) := ⟨HM.out.box.chgNo hch2, HM.out.row.chgNo hch2, hch2.heap HM.out.L (fun e => e), hch2.heap HM.out.K (fun e => e)⟩
        have HBL2 := hid (HBL.out.chgNo hch2)
        have HBT2 := hid (HBT.out.chgNo hch2)
        have HKR2 := hid (ownsRow_chg HKR.out hch2 (fun _ _ e => e))
        have HW02 := hid hw02
        have HOC := hid hoc
        clear HM HBL HBT HKR HCH HLOG hlog2 hoc hw02 hch2 bk c0 c1 c2
        refine wpAnyIn_ready (rs := [7]) (by kernel_rfl) (by simp) (AllReadyIn.cons rfl (fun K' hK => cstep rfl ?_) AllReadyIn.nil)
        gi_wp2
        refine ⟨trivial, callsIn_wide.2 (HOC.out.mono ?_)⟩
        rintro e w3 ⟨v', rfl, hv', hown', hch3⟩
        refine hK _ _ ?_
        clear hK
        change wpAnyIn _ _ _ _ _ _ 2 #[true, true, true, true, true, true, true, true, false, false] _ _
        have hL3 : w3.heap[l]? = some (.loop r) := hch3.heap HM2.out.L (fun e => e)
        have hy : (Instr.yield l #[v'.val]).run Try.prog w3 = .ok (.round l fn (ftm (some ⟨p, 0, none⟩) tick bo s7 f10 v'.val) assign body) w3 := by
          have := run_yield (P := Try.prog) (args := #[v'.val]) hL3 (by rw [hpa]; rfl)
          rw [hfn, hpa, htm, has, hbo] at this
          simpa [ftm] using this
        have hM3 : Mid r w0.heap.size bo l D v cs w3 := ⟨HM2.out.box.chgNo hch3, HM2.out.row.chgNo hch3, hL3, hch3.heap HM2.out.K (fun e => e)⟩
        have hsz3 : w0.heap.size ≤ w3.heap.size := (HW02.out.trans hch3).size
        have hround := hR 8 l D bo w0.heap.size fn (some ⟨p, 0, none⟩) tick s7 f10 v cs ⟨v', c.us⟩ w3 r hst hpe hM3 (ownsRow_mono hown' (HW02.out.size)) hsz3 (by have := hcl.out; omega)
        have HROUND := hid hround
        have HM3 := hid hM3
        have HBL3 := hid (HBL2.out.chgNo hch3)
        have HBT3 := hid (HBT2.out.chgNo hch3)
        have HKR3 := hid (ownsRow_chg HKR2.out hch3 (fun _ _ e => e))
        have HW03 := hid (HW02.out.trans hch3)
        have HV := hid hv'
        clear HM2 HBL2 HBT2 HKR2 HW02 HOC hM3 hround hch3 hown' hv' hL3
        refine wpAnyIn_ready (rs := [8]) (by kernel_rfl) (by simp) (AllReadyIn.cons rfl (fun K' hK => cstep rfl ?_) AllReadyIn.nil)
        gi_wp2
        refine HROUND.out.mono ?_
        rintro e w4 ⟨rfl, v4, hM4, hch4⟩
        have hnl : ∀ {x : Value} {b : Nat} {t : TypeId}, Blk w3 b #[x] t → b ≠ l := fun hb e => by
          have h1 := HM3.out.L
          unfold Blk at hb
          rw [e, h1] at hb
          cases hb
        have hbl4 := HBL3.out.chg hch4 (fun e => e.elim (hnl HBL3.out) (fun e => e.elim (HBL3.out.ne HM3.out.box (by decide)) (fun e => owns_ne_blk HM3.out.row.row HBL3.out (by decide) _ e rfl)))
        have hbt4 := HBT3.out.chg hch4 (fun e => e.elim (hnl HBT3.out) (fun e => e.elim (HBT3.out.ne HM3.out.box (by decide)) (fun e => owns_ne_blk HM3.out.row.row HBT3.out (by decide) _ e rfl)))
        have hkr4 := ownsRow_chg HKR3.out hch4 (fun j hj e => e.elim (fun e => owns_ne_obj HKR3.out HM3.out.L (fun _ _ _ e => by cases e) j hj e) (fun e => e.elim (fun e => owns_ne_blk HKR3.out HM3.out.box (by decide) j hj e) (fun e => owns_ne_owns HKR3.out HM3.out.row.row (by decide) j hj e)))
        have hw04 : Chg No w0 w4 := HW03.out.trans' hch4 (fun j hj e => by
          rcases e with e | e | e
          · omega
          · omega
          · have := (HM3.out.row.row.lt j e).1; omega)
        have HM4 := hid hM4
        have HBL4 := hid hbl4
        have HBT4 := hid hbt4
        have HKR4 := hid hkr4
        have HW04 := hid hw04
        clear hM4 hbl4 hbt4 hkr4 hw04 HM3 HBL3 HBT3 HKR3 HW03 HROUND hch4 hnl hy
        refine hK _ _ ?_
        clear hK
        change wpAnyIn _ _ _ _ _ _ 1 #[true, true, true, true, true, true, true, true, true, false] _ _
        refine wpAnyIn_ready (rs := [9]) (by kernel_rfl) (by simp) (AllReadyIn.cons rfl (fun K' hK => cstep rfl ?_) AllReadyIn.nil)
        gi_wp2
        refine wpAnyIn_done (by kernel_rfl) ?_ _
        gi_wp2
        have hab1 : Cmd.abs ⟨v', c.us⟩ = c.abs := by
          have h1 := HV.out
          unfold Cmd.abs
          rw [h1]
        have hab2 : (cs ++ [(⟨v', c.us⟩ : Cmd)]).map (fun c => some c.abs) = (ks.take (k + 1)).map (fun q => (Px.get L q).map Cmd.abs) := by
          rw [List.map_append, habs.out, List.take_add_one, HQ.out, List.map_append]
          simp [HGC.out, hab1]
        have HAB := hid hab2
        have HCL : Hid ((cs ++ [(⟨v', c.us⟩ : Cmd)]).length = k + 1) := hid (by simp [hcl.out])
        clear hab1 hab2
        go_roundw
        case rel =>
          exact ⟨_, _, _, _, _, _, _, _, _, _, _, _, _, _, _, _, ⟨k + 1, v4, _, by go_num, by omega, HM4.out, HCL, HAB, HBL4.out, HBT4.out, HKR4.out, HW04.out⟩, rfl⟩
        case measure => simp [intOf]; omega
    · gi_wp2
      have hkn : k = n := by omega
      subst hkn
      go_end0
      refine ⟨⟨_, rfl⟩, v, cs, hM, ?_, hch⟩
      have := habs.out
      rw [← HN.out, List.take_length] at this
      exact this

end Go.Proofs.Ytfpmgcpdjlkomaa
