/- 'LogOrder': what two logs hold that were fed the same commands in turned order. -/
import Derived.Test.YtfpmgcpdjlkomaaL25
namespace Go.Proofs.Ytfpmgcpdjlkomaa
open Go.RowKit Go.Px Go.Proofs Go.Shelf
set_option maxHeartbeats 400000
set_option maxRecDepth 100000

def kept (ds : List Cmd) : List (Key × CmdA) := (ds.filter (fun d => decide ((0 : Int) ≤ d.v.tick))).map fun d => (d.key, d.abs)
def HoldsOf (L : List (Key × Cmd)) (ds : List Cmd) : Prop := L.map (fun x => (x.1, x.2.abs)) = kept ds

theorem HoldsOf.keys {L : List (Key × Cmd)} {ds : List Cmd} (h : HoldsOf L ds) : L.map Prod.fst = (ds.filter (fun d => decide ((0 : Int) ≤ d.v.tick))).map Cmd.key := by
  have := congrArg (List.map Prod.fst) h
  unfold kept at this
  rw [List.map_map, List.map_map] at this
  exact this

theorem HoldsOf.len {L : List (Key × Cmd)} {ds : List Cmd} (h : HoldsOf L ds) : L.length ≤ ds.length := by
  have := congrArg List.length h
  unfold kept at this
  rw [List.length_map, List.length_map] at this
  rw [this]
  exact List.length_filter_le _ _

theorem HoldsOf.late {L : List (Key × Cmd)} {ds : List Cmd} (h : HoldsOf L ds) {c : Cmd} (hc : c.v.tick < 0) : HoldsOf L (ds ++ [c]) := by
  unfold HoldsOf kept at *
  rw [h, List.filter_append]
  simp
  omega

theorem HoldsOf.more {L : List (Key × Cmd)} {ds : List Cmd} (h : HoldsOf L ds) {c c' : Cmd} (hc : (0 : Int) ≤ c.v.tick) (ha : c'.abs = c.abs) : HoldsOf (L ++ [(c.key, c')]) (ds ++ [c]) := by
  unfold HoldsOf kept at *
  rw [List.map_append, h, List.filter_append]
  simp [hc, ha]

theorem LogIs.other {w w' : World} {p m B : Nat} {first : Int} {L : List (Key × Cmd)} (h : LogIs w p m B first L) {m1 : Nat} {es : Array MapEntry} {ck : Nat} (hm : w.heap[m1]? = some (.map es ck)) (hne : m ≠ m1) (hc : Chg (fun j => j = m1) w w') : LogIs w' p m B first L :=
  h.chg hc (fun e => by have := h.blk; unfold Blk at this; rw [e, hm] at this; cases this) hne (fun x hx k hk e => owns_ne_obj (h.own x hx) hm (fun _ _ _ e => by cases e) k hk e)

theorem feed {w : World} {p m B : Nat} {L : List (Key × Cmd)} {ds : List Cmd} (h : LogIs w p m B 0 L) (hS : HoldsOf L ds) (c : Cmd) (hok : c.ok w) (hk : c.key.wf) (hlim : c.us.length * 8 ≤ 140737488355328) (hnew : c.key ∉ ds.map Cmd.key) (hlen : ds.length ≤ 500) (hB : B ≤ w.heap.size) :
    Calls Try.prog 9 #[.pointer (some ⟨p, 0, none⟩), c.val] w fun e w' => ∃ r, e = .returned r ∧ Chg (fun j => j = m) w w' ∧ ∃ L', LogIs w' p m B 0 L' ∧ HoldsOf L' (ds ++ [c]) := by
  by_cases ht : c.v.tick < 0
  · refine (add_late h c ht).mono ?_
    rintro e w' ⟨rfl, hc⟩
    exact ⟨_, rfl, hc.to, L, h.chgNo hc, hS.late ht⟩
  · have hs : hask L c.key = false := by
      cases hh : hask L c.key with
      | false => rfl
      | true =>
        rw [hask_iff, hS.keys] at hh
        obtain ⟨d, hd, e⟩ := List.mem_map.1 hh
        exact absurd (List.mem_map.2 ⟨d, (List.mem_filter.1 hd).1, e⟩) hnew
    have hl := hS.len
    refine (add_new h c (by omega) hk hs (by omega) hB hok hlim).mono ?_
    rintro e w' ⟨rfl, hc, c', hu, hv, hlog⟩
    refine ⟨_, rfl, hc, _, hlog, ?_⟩
    unfold put
    rw [hs]
    refine hS.more (by omega) ?_
    unfold Cmd.abs
    rw [hu, hv]

theorem get_abs (L : List (Key × Cmd)) (q : Key) : (get L q).map Cmd.abs = get (L.map fun x => (x.1, x.2.abs)) q := by
  induction L with
  | nil => rfl
  | cons x L ih =>
    rw [get_cons, List.map_cons, get_cons]
    dsimp only
    split
    · rfl
    · exact ih

theorem get_perm {L M : List (Key × CmdA)} (h : L.Perm M) (hn : (L.map Prod.fst).Nodup) (q : Key) : get L q = get M q := by
  have hn' : (M.map Prod.fst).Nodup := (h.map Prod.fst).nodup_iff.1 hn
  cases hg : get L q with
  | some a => exact (get_of_mem hn' (h.mem_iff.1 (get_some_mem hg))).symm
  | none =>
    cases hg' : get M q with
    | none => rfl
    | some a =>
      have := get_of_mem hn (h.mem_iff.2 (get_some_mem hg'))
      rw [hg] at this; cases this

/-- Fed in turned order, they tell the same. -/
theorem fed_same {L1 L2 : List (Key × Cmd)} {ds : List Cmd} (h1 : HoldsOf L1 ds) (h2 : HoldsOf L2 ds.reverse) (hn : (L1.map Prod.fst).Nodup) {cs1 cs2 : List Cmd}
    (e1 : cs1.map (fun c => some c.abs) = (ksort ((L1.map Prod.fst).filter (fun k => decide ((0 : Int) ≤ k.t)))).map (fun q => (get L1 q).map Cmd.abs))
    (e2 : cs2.map (fun c => some c.abs) = (ksort ((L2.map Prod.fst).filter (fun k => decide ((0 : Int) ≤ k.t)))).map (fun q => (get L2 q).map Cmd.abs)) :
    cs1.map Cmd.abs = cs2.map Cmd.abs ∧ L1.length = L2.length := by
  have hp : (L1.map fun x => (x.1, x.2.abs)).Perm (L2.map fun x => (x.1, x.2.abs)) := by
    rw [h1, h2]
    unfold kept
    exact ((List.reverse_perm ds).symm.filter _).map _
  have hpk : (L1.map Prod.fst).Perm (L2.map Prod.fst) := by
    have := hp.map Prod.fst
    rw [List.map_map, List.map_map] at this
    exact this
  have hk : ksort ((L1.map Prod.fst).filter (fun k => decide ((0 : Int) ≤ k.t))) = ksort ((L2.map Prod.fst).filter (fun k => decide ((0 : Int) ≤ k.t))) := ksort_perm (hpk.filter _)
  have hg : ∀ q, (get L1 q).map Cmd.abs = (get L2 q).map Cmd.abs := fun q => by
    rw [get_abs, get_abs]
    exact get_perm hp (by rw [List.map_map]; exact hn) q
  have he : cs1.map (fun c => some c.abs) = cs2.map (fun c => some c.abs) := by
    rw [e1, e2, hk]
    exact List.map_congr_left (fun q _ => hg q)
  refine ⟨?_, by have := hpk.length_eq; simpa using this⟩
  have h3 : (cs1.map Cmd.abs).map some = (cs2.map Cmd.abs).map some := by
    rw [List.map_map, List.map_map]; exact he
  exact (List.map_inj_right (fun _ _ e => by injection e)).1 h3

/-- The memory while both logs are fed. -/
structure Fed (w wr : World) (p1 m1 p2 m2 : Nat) (v : Value) (os : List Cmd) (i k : Nat) : Prop where
  row : wr.ownsRow w.heap.size 28 12 v os.length (os.flatMap Cmd.row)
  lx : ∃ L, LogIs wr p1 m1 m1 0 L ∧ HoldsOf L (os.take i)
  ly : ∃ L, LogIs wr p2 m2 m2 0 L ∧ HoldsOf L (os.reverse.take k)
  chg : Chg No w wr

theorem Fed.chgNo {w wr wr' : World} {p1 m1 p2 m2 : Nat} {v : Value} {os : List Cmd} {i k : Nat} (h : Fed w wr p1 m1 p2 m2 v os i k) (hc : Chg No wr wr') : Fed w wr' p1 m1 p2 m2 v os i k := by
  obtain ⟨h1, ⟨L1, h2, h3⟩, ⟨L2, h4, h5⟩, h6⟩ := h
  exact ⟨ownsRow_chg h1 hc (fun _ _ e => e), ⟨L1, h2.chgNo hc, h3⟩, ⟨L2, h4.chgNo hc, h5⟩, h6.trans hc⟩

theorem new_of_take {os : List Cmd} (hn : (os.map Cmd.key).Nodup) {i : Nat} {c : Cmd} (hc : os[i]? = some c) : c.key ∉ (os.take i).map Cmd.key := by
  intro h
  have h2 := List.getElem?_eq_some_iff.1 hc
  obtain ⟨hi, e⟩ := h2
  rw [← List.take_append_drop i os, List.map_append] at hn
  have h3 := (List.nodup_append.1 hn).2.2 _ h c.key (List.mem_map.2 ⟨c, by rw [List.mem_iff_getElem?]; exact ⟨0, by simp [hc]⟩, rfl⟩)
  exact h3 rfl

theorem take_one {os : List Cmd} {i : Nat} {c : Cmd} (hc : os[i]? = some c) : os.take (i + 1) = os.take i ++ [c] := by
  rw [List.take_add_one, hc]; rfl

theorem Fed.x {w wr : World} {p1 m1 p2 m2 : Nat} {v : Value} {os : List Cmd} {i k : Nat} (h : Fed w wr p1 m1 p2 m2 v os i k) (hn : (os.map Cmd.key).Nodup) (hl : os.length ≤ 500) {c : Cmd} (hc : os[i]? = some c) (hok : c.ok w) (hk : c.key.wf) (hlim : c.us.length * 8 ≤ 140737488355328)
    (hm : w.heap.size ≤ m1) (hne : m2 ≠ m1) : Calls Try.prog 9 #[.pointer (some ⟨p1, 0, none⟩), c.val] wr fun e w' => ∃ r, e = .returned r ∧ Fed w w' p1 m1 p2 m2 v os (i + 1) k := by
  obtain ⟨h1, ⟨L1, h2, h3⟩, ⟨L2, h4, h5⟩, h6⟩ := h
  obtain ⟨_, _, ho⟩ := h2.map.obj
  refine (feed h2 h3 c (hok.chg h6) hk hlim (new_of_take hn hc) (by rw [List.length_take]; omega) (Nat.le_of_lt h2.map.lt)).mono ?_
  rintro e w' ⟨r, rfl, hch, L', hlog, hS⟩
  exact ⟨r, rfl, ownsRow_chg h1 hch (fun j hj e => owns_ne_obj h1 ho (fun _ _ _ e => by cases e) j hj e), ⟨L', hlog, by rw [take_one hc]; exact hS⟩, ⟨L2, h4.other ho hne hch, h5⟩, h6.trans' hch (fun j hj e => by omega)⟩

theorem Fed.y {w wr : World} {p1 m1 p2 m2 : Nat} {v : Value} {os : List Cmd} {i k : Nat} (h : Fed w wr p1 m1 p2 m2 v os i k) (hn : (os.map Cmd.key).Nodup) (hl : os.length ≤ 500) {c : Cmd} (hc : os.reverse[k]? = some c) (hok : c.ok w) (hk : c.key.wf) (hlim : c.us.length * 8 ≤ 140737488355328)
    (hm : w.heap.size ≤ m2) (hne : m1 ≠ m2) : Calls Try.prog 9 #[.pointer (some ⟨p2, 0, none⟩), c.val] wr fun e w' => ∃ r, e = .returned r ∧ Fed w w' p1 m1 p2 m2 v os i (k + 1) := by
  obtain ⟨h1, ⟨L1, h2, h3⟩, ⟨L2, h4, h5⟩, h6⟩ := h
  obtain ⟨_, _, ho⟩ := h4.map.obj
  have hnr : (os.reverse.map Cmd.key).Nodup := by rw [List.map_reverse]; exact (List.reverse_perm _).nodup_iff.2 hn
  refine (feed h4 h5 c (hok.chg h6) hk hlim (new_of_take hnr hc) (by rw [List.length_take, List.length_reverse]; omega) (Nat.le_of_lt h4.map.lt)).mono ?_
  rintro e w' ⟨r, rfl, hch, L', hlog, hS⟩
  exact ⟨r, rfl, ownsRow_chg h1 hch (fun j hj e => owns_ne_obj h1 ho (fun _ _ _ e => by cases e) j hj e), ⟨L1, h2.other ho hne hch, h3⟩, ⟨L', hlog, by rw [take_one hc]; exact hS⟩, h6.trans' hch (fun j hj e => by omega)⟩
end Go.Proofs.Ytfpmgcpdjlkomaa
