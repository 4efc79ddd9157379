/- Own library: slices.SortFunc's contract of the shelf, in the words of Px (an owned row, sorted). No program in it. -/
import Derived.Shelf.SlSortCmp.NoneTotal
import Derived.Test.YtfpmgcpdjlkomaaPx
namespace Go.Px
open Go.RowKit Go.Sort Go.Proofs

theorem flat_length {α : Type} {enc : α → List Value} {k : Nat} (hk : ∀ x, (enc x).length = k) (d : List α) : (d.flatMap enc).length = d.length * k := by
  induction d with
  | nil => simp
  | cons x d ih => rw [List.flatMap_cons, List.length_append, ih, hk, List.length_cons, Nat.add_mul, Nat.one_mul]; omega

section
variable {α : Type} [Inhabited α] {enc : α → List Value} {k : Nat}

theorem flat_get (hk : ∀ x, (enc x).length = k) : ∀ (d : List α) (t : Nat), t < d.length * k → (d.flatMap enc)[t]? = some (enc (d.toArray[t / k]!))[t % k]! := by
  intro d
  induction d with
  | nil => intro t h; simp at h
  | cons x d ih =>
    intro t h
    have k0 : 0 < k := by
      rcases Nat.eq_zero_or_pos k with h0 | h0
      · subst h0; simp at h
      · exact h0
    rw [List.flatMap_cons]
    by_cases ht : t < k
    · rw [List.getElem?_append_left (by rw [hk]; exact ht), Nat.div_eq_of_lt ht, Nat.mod_eq_of_lt ht]
      have : t < (enc x).length := by rw [hk]; exact ht
      simp [List.getElem?_eq_getElem this, this]
    · have hge : k ≤ t := by omega
      rw [List.getElem?_append_right (by rw [hk]; exact hge), hk]
      have hlt : t - k < d.length * k := by
        have : (x :: d).length * k = d.length * k + k := by rw [List.length_cons, Nat.add_mul, Nat.one_mul]
        omega
      rw [ih (t - k) hlt]
      obtain ⟨u, rfl⟩ : ∃ u, t = u + k := ⟨t - k, by omega⟩
      have e1 : (u + k) / k = u / k + 1 := Nat.add_div_right u k0
      have e2 : (u + k) % k = u % k := Nat.add_mod_right u k
      rw [Nat.add_sub_cancel, e1, e2]
      have e3 : (x :: d).toArray[u / k + 1]! = d.toArray[u / k]! := by simp
      rw [e3]

theorem flatK_list (hk : ∀ x, (enc x).length = k) (d : List α) : (flatK enc k d.toArray).toList = d.flatMap enc := by
  apply List.ext_getElem?
  intro t
  by_cases h : t < d.length * k
  · rw [flat_get hk d t h]
    have h1 : t < (flatK enc k d.toArray).size := by simpa using h
    rw [Array.getElem?_toList, Array.getElem?_eq_getElem h1, ← getElem!_pos (flatK enc k d.toArray) t h1, get_flatK _ _ _ _ (by simpa using h)]
  · rw [List.getElem?_eq_none (l := (flatK enc k d.toArray).toList) (by simp; omega), List.getElem?_eq_none (by rw [flat_length hk]; omega)]

variable {w : World} {B e g n cap : Nat}

theorem holds_of_owns (hk : ∀ x, (enc x).length = k) {ks : List α} (hown : w.ownsRow B e k (.slice (some ⟨g, 0, none⟩) n cap) n (ks.flatMap enc)) (hn : ks.length = n) : HoldsK enc k w g 0 ks.toArray := by
  intro j hj
  have hj' : j < ks.length * k := by simpa using hj
  have h1 := hown.cellAt j (by rw [← hn]; exact hj')
  have h2 := hown.frozenAt j
  rw [Nat.zero_add]
  refine ⟨?_, h2⟩
  rw [h1, flat_get hk ks j hj', get_flatK _ _ _ _ (by simpa using hj')]
  rfl

theorem sortWorldK_heap (w : World) (blk off q : Nat) (d : Array α) (os : Array Obj) (j : Nat) (hj : j < w.heap.size) : (sortWorldK enc k w blk off q d os).heap[j]? = if blk = j then (w.heap[j]?).map (onCells (putCells id off (flatK enc k d))) else w.heap[j]? := by
  unfold sortWorldK grow putRowK putRow mapBlock Sort.ahead
  simp only
  rw [Array.getElem?_append_left (by simpa using hj), Array.getElem?_modify]

theorem sortWorldK_chg (w : World) (blk off q : Nat) (d : Array α) (os : Array Obj) : Chg (fun j => j = blk) w (sortWorldK enc k w blk off q d os) :=
  ⟨rfl, rfl, rfl, by simp [sortWorldK, grow, putRowK, putRow, mapBlock, Sort.ahead], fun j hj hn => by rw [sortWorldK_heap w blk off q d os j hj, if_neg (fun e => hn e.symm)]⟩

theorem owns_sorted (hk : ∀ x, (enc x).length = k) {ks ys : List α} (hown : w.ownsRow B e k (.slice (some ⟨g, 0, none⟩) n cap) n (ks.flatMap enc)) (hy : ys.length = n) (q : Nat) (os : Array Obj) :
    (sortWorldK enc k w g 0 q ys.toArray os).ownsRow B e k (.slice (some ⟨g, 0, none⟩) n cap) n (ys.flatMap enc) := by
  refine ⟨by rw [flat_length hk, hy], ?_⟩
  rcases hown.2 with ⟨h, _⟩ | ⟨g', cap', cur, h, hb, hg, hn, hm, hs, ht⟩
  · cases h
  · cases h
    have hlt := (Array.getElem?_eq_some_iff.1 hg).1
    refine .inr ⟨g, cap, putCells id 0 (flatK enc k ys.toArray) cur, rfl, hb, ?_, hn, hm, by simp [putCells, hs], ?_⟩
    · rw [sortWorldK_heap w g 0 q ys.toArray os g hlt, if_pos rfl, hg]; rfl
    · rw [← flatK_list hk ys]
      apply List.ext_getElem?
      intro j
      rw [List.getElem?_take]
      have hsz : (flatK enc k ys.toArray).size = n * k := by simp [hy]
      by_cases hj : j < n * k
      · rw [if_pos hj, Array.getElem?_toList, Array.getElem?_toList]
        have hjc : j < cur.size := by rw [hs]; exact Nat.lt_of_lt_of_le hj (Nat.mul_le_mul_right _ hn)
        have hjf : j < (flatK enc k ys.toArray).size := by omega
        unfold putCells
        rw [Array.getElem?_mapIdx, Array.getElem?_eq_getElem hjc, Option.map_some, if_pos ⟨Nat.zero_le _, by omega⟩, Array.getElem?_eq_getElem hjf, Nat.sub_zero, getElem!_pos _ j hjf]
        rfl
      · rw [if_neg hj, List.getElem?_eq_none (by rw [Array.length_toList, hsz]; omega)]

end

/-- slices.SortFunc, cmp a strict order that parts any two: the row sorted. 'srt' is the shelf's contract at the program, of a row that is not nil; 'srt0' of no element. -/
theorem sort_calls {P : Program} {f gf : Nat} {cb : Array Value} {α : Type} [Inhabited α] {enc : α → List Value} {k : Nat} (hk : ∀ x, (enc x).length = k) (lt : α → α → Bool)
    (srt0 : ∀ (p : Option Addr) (cap : Nat) (fv : Value) (w : World), Calls P f #[.slice p 0 cap, fv] w fun e w' => e = .returned (.tuple #[]) ∧ w' = w)
    (srt : ∀ (blk off cap : Nat) (d : Array α) (w : World), HoldsK enc k w blk off d → blk < w.heap.size → d.size < 4611686018427387904 →
      Calls P f #[.slice (some ⟨blk, off, none⟩) d.size cap, .func (.func gf) #[] cb] w fun e w' => e = .returned (.tuple #[]) ∧ ∃ n os, w' = sortWorldK enc k w blk off n (d.toList.mergeSort fun x y => !lt y x).toArray os)
    {w : World} {B e : Nat} {v : Value} {n : Nat} {ks : List α} (hown : w.ownsRow B e k v n (ks.flatMap enc)) (hn : ks.length = n) (hsz : n < 4611686018427387904) :
    Calls P f #[v, .func (.func gf) #[] cb] w fun e' w' => e' = .returned (.tuple #[]) ∧ w'.ownsRow B e k v n ((ks.mergeSort fun x y => !lt y x).flatMap enc) ∧ Chg (fun j => v.ownBlock = some j) w w' := by
  rcases hown.2 with ⟨rfl, rfl⟩ | ⟨g, cap, cur, rfl, hb, hg, h1, h2, h3, h4⟩
  · refine (srt0 none 0 _ w).mono ?_
    rintro e' w' ⟨rfl, rfl⟩
    have : ks = [] := List.eq_nil_of_length_eq_zero hn
    subst this
    exact ⟨rfl, by rw [List.mergeSort_nil]; exact hown, Chg.refl _ _⟩
  · have h := srt g 0 cap ks.toArray w (holds_of_owns hk hown hn) (Array.getElem?_eq_some_iff.1 hg).1 (by simpa [hn] using hsz)
    rw [show ks.toArray.size = n by simpa using hn] at h
    refine h.mono ?_
    rintro e' w' ⟨rfl, q, os, rfl⟩
    exact ⟨rfl, owns_sorted hk hown (by rw [List.length_mergeSort]; simpa using hn) q os, (sortWorldK_chg _ _ _ _ _ _).mono (fun j _ e => by subst e; rfl)⟩

end Go.Px
