/- 'LogOrder': the first loop, once and for all. -/
import Derived.Test.YtfpmgcpdjlkomaaL24
namespace Go.Proofs.Ytfpmgcpdjlkomaa
open Go.RowKit Go.Px Go.Proofs Go.Shelf
set_option maxHeartbeats 400000
set_option maxRecDepth 100000

/-- The memory while the commands are sifted. -/
structure Met (w wr : World) (p1 m1 B1 p2 m2 B2 mt : Nat) (v : Value) (os : List Cmd) : Prop where
  map : IsMap Try.prog 40 Key.val Value.bool wr mt (os.map fun c => (c.key, true))
  row : wr.ownsRow w.heap.size 28 12 v os.length (os.flatMap Cmd.row)
  lx : LogIs wr p1 m1 B1 0 []
  ly : LogIs wr p2 m2 B2 0 []
  chg : Chg No w wr

theorem Met.chgNo {w wr wr' : World} {p1 m1 B1 p2 m2 B2 mt : Nat} {v : Value} {os : List Cmd} (h : Met w wr p1 m1 B1 p2 m2 B2 mt v os) (hc : Chg No wr wr') : Met w wr' p1 m1 B1 p2 m2 B2 mt v os :=
  ⟨h.map.chgNo hc, ownsRow_chg h.row hc (fun _ _ e => e), h.lx.chgNo hc, h.ly.chgNo hc, h.chg.trans hc⟩

theorem key_eta (k : Key) : Value.agg #[.int .i64 k.t, .int .i64 k.p, .int .i64 k.s] = k.val := rfl

/-- What the map of the keys met says. -/
theorem met_look {w wr : World} {p1 m1 B1 p2 m2 B2 mt : Nat} {v : Value} {os : List Cmd} (h : Met w wr p1 m1 B1 p2 m2 B2 mt v os) (k : Key) (hk : k.wf) :
    (Instr.lookup 38 (.map (some mt)) k.val false).run Try.prog wr = .ok (.bool (hask (os.map fun c => (c.key, true)) k)) wr := by
  obtain ⟨l, hl⟩ := key_good hk
  cases hg : get (os.map fun c => (c.key, true)) k with
  | none =>
    rw [hask_get, hg]
    exact (h.map.look_none Try.keyed Key.inj Try.u38 zero4 k hl hg).2
  | some b =>
    have hm := get_some_mem hg
    obtain ⟨c, _, e⟩ := List.mem_map.1 hm
    simp only [Prod.mk.injEq] at e
    rw [hask_get, hg, ← e.2]
    rw [← e.2] at hg
    exact (h.map.look_some Try.keyed Key.inj Try.u38 zero4 k hl hg).2

/-- A key more; then the command behind the others. -/
theorem met_put {w wr : World} {p1 m1 B1 p2 m2 B2 mt : Nat} {v : Value} {os : List Cmd} (h : Met w wr p1 m1 B1 p2 m2 B2 mt v os) (c : Cmd) (hk : c.key.wf) (hs : hask (os.map fun c => (c.key, true)) c.key = false) (hmt : w.heap.size ≤ mt) (hn1 : m1 ≠ mt) (hn2 : m2 ≠ mt) :
    ∃ w', (Instr.mapUpdate 38 (.map (some mt)) c.key.val (.bool true)).run Try.prog wr = .ok () w' ∧ IsMap Try.prog 40 Key.val Value.bool w' mt ((os ++ [c]).map fun c => (c.key, true)) ∧ w'.ownsRow w.heap.size 28 12 v os.length (os.flatMap Cmd.row) ∧ LogIs w' p1 m1 B1 0 [] ∧ LogIs w' p2 m2 B2 0 [] ∧ Chg No w w' ∧ (∀ S, S mt → Chg S wr w') := by
  obtain ⟨l, hl⟩ := key_good hk
  obtain ⟨w', h1, h2, h3, h4⟩ := h.map.update Try.keyed Key.inj Try.u38 c.key true hl
  have hS := h3 (fun j => j = mt) rfl
  obtain ⟨_, _, hm⟩ := h.map.obj
  refine ⟨w', h1, ?_, ownsRow_chg h.row hS (fun k hk e => owns_ne_obj h.row hm (fun _ _ _ e => by cases e) k hk e), ?_, ?_, ?_, h3⟩
  · unfold put at h2
    rw [hs] at h2
    simpa using h2
  · exact h.lx.chg hS (fun e => by have := h.lx.blk; unfold Blk at this; rw [e, hm] at this; cases this) hn1 (by simp)
  · exact h.ly.chg hS (fun e => by have := h.ly.blk; unfold Blk at this; rw [e, hm] at this; cases this) hn2 (by simp)
  · exact h.chg.trans' hS (fun j hj e => by omega)

theorem met_more {w wr w' : World} {p1 m1 B1 p2 m2 B2 mt : Nat} {v v' : Value} {os : List Cmd} {c : Cmd} (h1 : IsMap Try.prog 40 Key.val Value.bool wr mt ((os ++ [c]).map fun c => (c.key, true))) (h2 : wr.ownsRow w.heap.size 28 12 v os.length (os.flatMap Cmd.row)) (h3 : LogIs wr p1 m1 B1 0 []) (h4 : LogIs wr p2 m2 B2 0 []) (h5 : Chg No w wr)
    {o : Obj} (hg : (wr.alloc o).grownBy w' v.ownBlock) (hr : w'.ownsRow w.heap.size 28 12 v' (os.length + 1) (os.flatMap Cmd.row ++ c.row)) : Met w w' p1 m1 B1 p2 m2 B2 mt v' (os ++ [c]) := by
  have hS : Chg (fun j => v.ownBlock = some j) wr w' := ((Chg.refl _ wr).alloc o).grown hg (fun j e _ => e)
  have hob : ∀ {b : Nat} {ob : Obj}, wr.heap[b]? = some ob → (∀ c t f, ob ≠ .cells c t f) → ¬ v.ownBlock = some b := fun hb hn e => owns_ne_obj h2 hb hn _ e rfl
  obtain ⟨_, _, hm⟩ := h1.obj
  obtain ⟨_, _, hm1⟩ := h3.map.obj
  obtain ⟨_, _, hm2⟩ := h4.map.obj
  refine ⟨h1.chg hS (hob hm (fun _ _ _ e => by cases e)), ?_, ?_, ?_, h5.trans' hS (fun j hj e => by have := (h2.lt j e).1; omega)⟩
  · have e2 : (os ++ [c]).flatMap Cmd.row = os.flatMap Cmd.row ++ c.row := by simp
    rw [e2, List.length_append]
    exact hr
  · exact h3.chg hS (fun e => owns_ne_blk h2 h3.blk (by decide) _ e rfl) (hob hm1 (fun _ _ _ e => by cases e)) (by simp)
  · exact h4.chg hS (fun e => owns_ne_blk h2 h4.blk (by decide) _ e rfl) (hob hm2 (fun _ _ _ e => by cases e)) (by simp)
end Go.Proofs.Ytfpmgcpdjlkomaa
