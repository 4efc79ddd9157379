/- Own library: delete from a map while a range over it is under way. No program in it. -/
import Derived.Test.YtfpmgcpdjlkomaaPx
namespace Go.Px
open Go.RowKit Go.MapKept
open Go.ChangeMaps (setBlock)
open Go.Maps (Keyed)

section
variable {κ ν : Type} [DecidableEq κ]
variable {P : Program} {kt : TypeId} {ke : κ → Value} {ve : ν → Value} {w w' : World} {b : Nat} {L : List (κ × ν)}

theorem eraseIdx_filter {α β : Type} [DecidableEq β] {f : α → β} : ∀ {l : List α} {j : Nat} {x : α}, (l.map f).Nodup → l[j]? = some x → l.eraseIdx j = l.filter (fun y => decide (f y ≠ f x))
  | [], _, _, _, h => by simp at h
  | a :: l, 0, x, hn, h => by
    rw [List.map_cons, List.nodup_cons] at hn
    simp at h
    subst h
    rw [List.filter_cons, if_neg (by simp), List.eraseIdx_cons_zero]
    exact (List.filter_eq_self.2 (fun y hy => by
      have : f y ≠ f a := fun e => hn.1 (by rw [← e]; exact List.mem_map.2 ⟨y, hy, rfl⟩)
      simpa using this)).symm
  | a :: l, j + 1, x, hn, h => by
    rw [List.map_cons, List.nodup_cons] at hn
    simp at h
    have : f a ≠ f x := fun e => hn.1 (by rw [e]; exact List.mem_map.2 ⟨x, List.mem_of_getElem? h, rfl⟩)
    rw [List.filter_cons, if_pos (by simpa using this), List.eraseIdx_cons_succ, eraseIdx_filter hn.2 h]

/-- 'delete(m, k)' while a range over m is under way. -/
theorem IsIter.delete {r : Nat} {M : List (κ × ν)} (h : IsIter P kt ke ve w b r L M) (K : Keyed P kt) (hinj : ∀ {x y}, ke x = ke y → x = y) {t e ty : TypeId} (ht : P.underlying t = some (.map kt e)) (k : κ) {l : Lit} (hk : keyOf P kt (ke k) = some l) :
    ∃ w', (Builtin.delete_ #[t, kt] ty #[.map (some b), ke k]).run P w = .ok (.tuple #[]) w' ∧ IsIter P kt ke ve w' b r (del L k) (del M k) ∧ (∀ S, S b → Chg S w w') ∧ w'.heap.size = w.heap.size := by
  obtain ⟨es, clock, since, seen, c0, hb, hst, he, hn, hg, hr, hold, hsc, hsk, hM, hsub⟩ := h
  have hlt := (Array.getElem?_eq_some_iff.1 hb).1
  have hne : r ≠ b := by intro e; rw [e, hb] at hr; cases hr
  have hset : ∀ o, (setBlock w b o).heap[b]? = some o := fun o => by
    show (w.heap.setIfInBounds b o)[b]? = _
    simp [Array.getElem?_setIfInBounds, hlt]
  have hoth : ∀ o, (setBlock w b o).heap[r]? = some (.mapIter (some b) since seen c0) := fun o => by
    show (w.heap.setIfInBounds b o)[r]? = _
    rw [Array.getElem?_setIfInBounds, if_neg (fun e => hne e.symm)]; exact hr
  have hgood : ∀ p ∈ del L k, ∃ l, keyOf P kt (ke p.1) = some l := fun p hp => hg p (List.mem_filter.1 hp).1
  rcases find_entries K hinj he hn hg k hk w with ⟨h1, h2, h3⟩ | ⟨j, x, v0, h1, h2, h3, h4, h5, h6⟩
  · have hLk : del L k = L := List.filter_eq_self.2 (fun p hp => by simpa using (get_none_iff L k).1 h2 p hp)
    have hMk : del M k = M := List.filter_eq_self.2 (fun p hp => by simpa using (get_none_iff L k).1 h2 p (hsub.mem hp))
    refine ⟨setBlock w b (.map es clock), ?_, ⟨es, clock, since, seen, c0, hset _, hst, by rw [hLk]; exact he, by rw [hLk]; exact hn, hgood, hoth _, hold, hsc, hsk, by rw [hMk]; exact hM, by rw [hLk, hMk]; exact hsub⟩, fun S hS => (Chg.refl S w).setBlock b _ (fun _ => hS), by simp [ChangeMaps.setBlock]⟩
    simp [Builtin.delete_, run_underlying ht, MapKept.run_getObj_map hb, K.check w _ hk, h1, MapKept.run_setObj_map _ hb, Result.andThen, ChangeMaps.setBlock]
  · have hjl : j < es.toList.length := (List.getElem?_eq_some_iff.1 h2).1
    have hjs : j < es.size := by simpa using hjl
    have hsubl : (es.eraseIdxIfInBounds j).toList = es.toList.eraseIdx j := by
      unfold Array.eraseIdxIfInBounds
      rw [dif_pos hjs]
      simp
    have hxe : x ∈ es.toList := List.mem_of_getElem? h2
    have hef : es.toList.eraseIdx j = es.toList.filter (fun y => decide (y.born ≠ x.born)) := eraseIdx_filter (f := MapEntry.born) hst.2.1 h2
    refine ⟨setBlock w b (.map (es.eraseIdxIfInBounds j) clock), ?_, ⟨es.eraseIdxIfInBounds j, clock, since, seen, c0, hset _, stamped_erase hst j, ?_, nodup_del hn k, hgood, hoth _, ?_, hsc, hsk, ?_, hsub.filter _⟩, fun S hS => (Chg.refl S w).setBlock b _ (fun _ => hS), by simp [ChangeMaps.setBlock]⟩
    · simp [Builtin.delete_, run_underlying ht, MapKept.run_getObj_map hb, K.check w _ hk, h1, MapKept.run_setObj_map _ hb, Result.andThen, ChangeMaps.setBlock]
    · have hd := del_eq_eraseIdx hn h4
      rw [hsubl, hd, ChangeMaps.map_eraseIdx, he, ChangeMaps.map_eraseIdx]
    · intro y hy
      rw [hsubl] at hy
      exact hold y (List.eraseIdx_subset hy)
    · have hl : (leftOf (es.eraseIdxIfInBounds j) seen).toList = (leftOf es seen).toList.filter (fun y => decide (y.born ≠ x.born)) := by
        simp only [leftOf, Array.toList_filter, hsubl, hef, List.filter_filter]
        refine List.filter_congr (fun y _ => ?_)
        rw [Bool.and_comm]
      rw [hl]
      unfold del
      refine filter_corr hM (fun y hy q hq hyq => ?_)
      simp only [Prod.mk.injEq] at hyq
      have hye : y ∈ es.toList := by
        simp only [leftOf, Array.toList_filter, List.mem_filter] at hy
        exact hy.1
      have := born_ne_iff hst hye hxe
      rw [hyq.1, h3] at this
      have h2' : (ke q.1 = ke k) ↔ q.1 = k := ⟨fun h => hinj h, fun h => by rw [h]⟩
      rw [decide_eq_decide]
      rw [Ne, Ne, this, h2']
end
end Go.Px
