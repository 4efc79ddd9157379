/- Own base library of this place (no program in it): frames ('Chg': which old blocks may have turned), maps as association lists over typed keys and elements ('IsMap'), a range over such a map ('IsIter'). -/
import Derived.WalkKit
import Derived.WalkSpells
import Derived.WalkLawsBesides
import Derived.Maps.RangeWalk
import Derived.DeepKeys4
import Derived.Laws.AppendOwnNone
namespace Go.Px
open Go.RowKit Go.MapKept
open Go.ChangeMaps (setBlock)
open Go.Maps (Keyed)

/-! ### frames -/

/-- Of the blocks of w only those of S may have turned. -/
structure Chg (S : Nat → Prop) (w w' : World) : Prop where
  os : w'.os = w.os
  tape : w'.tape = w.tape
  output : w'.output = w.output
  size : w.heap.size ≤ w'.heap.size
  block : ∀ k, k < w.heap.size → ¬ S k → w'.heap[k]? = w.heap[k]?

abbrev No : Nat → Prop := fun _ => False

section
variable {S T : Nat → Prop} {a b c w w' : World}

theorem Chg.refl (S : Nat → Prop) (w : World) : Chg S w w := ⟨rfl, rfl, rfl, Nat.le_refl _, fun _ _ _ => rfl⟩

theorem Chg.trans' (h : Chg S a b) (k : Chg T b c) (hs : ∀ j, j < a.heap.size → T j → S j) : Chg S a c :=
  ⟨k.os.trans h.os, k.tape.trans h.tape, k.output.trans h.output, Nat.le_trans h.size k.size, fun j hj hn =>
    (k.block j (Nat.lt_of_lt_of_le hj h.size) (fun e => hn (hs j hj e))).trans (h.block j hj hn)⟩

theorem Chg.trans (h : Chg S a b) (k : Chg S b c) : Chg S a c := h.trans' k (fun _ _ e => e)

theorem Chg.mono (h : Chg S a b) (hs : ∀ j, j < a.heap.size → S j → T j) : Chg T a b :=
  ⟨h.os, h.tape, h.output, h.size, fun j hj hn => h.block j hj (fun e => hn (hs j hj e))⟩

theorem Chg.to (h : Chg No a b) : Chg S a b := h.mono (fun _ _ e => e.elim)

theorem Chg.drew (h : Chg S a w) : Chg S a w.drew := ⟨h.os, h.tape, h.output, h.size, h.block⟩
theorem Chg.drewN (h : Chg S a w) (n : Nat) : Chg S a (w.drewN n) := ⟨h.os, h.tape, h.output, h.size, h.block⟩

theorem Chg.alloc (h : Chg S a w) (o : Obj) : Chg S a (w.alloc o) :=
  h.trans ⟨rfl, rfl, rfl, by simp, fun k hk _ => Below.heap_alloc _ _ _ hk⟩

theorem Chg.setCell (h : Chg S a w) (p : Addr) (u : Value) (hp : p.block < a.heap.size → S p.block) : Chg S a (w.setCell p u) :=
  ⟨h.os, h.tape, h.output, by simpa [World.setCell] using h.size, fun k hk hn => by
    rw [Below.heap_setCell _ _ _ _ (fun e => hn (by subst e; exact hp hk))]; exact h.block k hk hn⟩

theorem Chg.setBlock (h : Chg S a w) (r : Nat) (o : Obj) (hp : r < a.heap.size → S r) : Chg S a (setBlock w r o) :=
  ⟨h.os, h.tape, h.output, by simpa [ChangeMaps.setBlock] using h.size, fun k hk hn => by
    have : k ≠ r := fun e => hn (by subst e; exact hp hk)
    show (w.heap.setIfInBounds r o)[k]? = _
    rw [Array.getElem?_setIfInBounds, if_neg (fun e => this e.symm)]
    exact h.block k hk hn⟩

theorem Chg.grown {row : Option Nat} (h : Chg S a w) (hg : w.grownBy w' row) (hr : ∀ k, row = some k → k < a.heap.size → S k) : Chg S a w' :=
  ⟨hg.os.trans h.os, hg.tape.trans h.tape, hg.output.trans h.output, Nat.le_trans h.size hg.size, fun k hk hn =>
    (hg.block k (Nat.lt_of_lt_of_le hk h.size) (fun e => hn (hr k e.symm hk))).trans (h.block k hk hn)⟩

theorem Chg.ofGrown {row : Option Nat} (hg : a.grownBy b row) : Chg (fun k => row = some k) a b := (Chg.refl _ a).grown hg (fun _ e _ => e)

theorem Chg.ofBelow (h : Below a.heap.size a b) : Chg No a b := ⟨h.os, h.tape, h.output, h.size, fun k hk _ => h.block k hk⟩
theorem Chg.toBelow (h : Chg No a b) : Below a.heap.size a b := ⟨h.os, h.tape, h.output, h.size, fun k hk => h.block k hk (fun e => e)⟩
theorem Chg.below {B : Nat} (h : Chg S a b) (hB : B ≤ a.heap.size) (hs : ∀ j, j < B → ¬ S j) : Below B a b := ⟨h.os, h.tape, h.output, h.size, fun k hk => h.block k (by omega) (hs k hk)⟩

theorem Chg.heap (h : Chg S a b) {k : Nat} {o : Obj} (hk : a.heap[k]? = some o) (hn : ¬ S k) : b.heap[k]? = some o :=
  (h.block k (Array.getElem?_eq_some_iff.1 hk).1 hn).trans hk

theorem Chg.cellEq (h : Chg S a b) {p : Addr} (hp : p.block < a.heap.size) (hn : ¬ S p.block) : b.cell? p = a.cell? p := World.cell?_of_block (h.block p.block hp hn)
theorem Chg.frozenEq (h : Chg S a b) {p : Addr} (hp : p.block < a.heap.size) (hn : ¬ S p.block) : b.frozen? p = a.frozen? p := World.frozen?_of_block (h.block p.block hp hn)

theorem cell_lt {p : Addr} {v : Value} (h : a.cell? p = some v) : p.block < a.heap.size := World.block_lt_of_cell? a p h
theorem Chg.cell (h : Chg S a b) {p : Addr} {v : Value} (hc : a.cell? p = some v) (hn : ¬ S p.block) : b.cell? p = some v := (h.cellEq (cell_lt hc) hn).trans hc

end

/-! ### maps -/

section
variable {κ ν : Type} [DecidableEq κ]

/-- The element at a key. -/
def get (L : List (κ × ν)) (k : κ) : Option ν := (L.find? (fun p => decide (p.1 = k))).map (·.2)
/-- Whether a key is there. -/
def hask (L : List (κ × ν)) (k : κ) : Bool := L.any (fun p => decide (p.1 = k))
/-- 'm[k] = v'. -/
def put (L : List (κ × ν)) (k : κ) (v : ν) : List (κ × ν) := if hask L k then L.map (fun p => if p.1 = k then (k, v) else p) else L ++ [(k, v)]
/-- 'delete(m, k)'. -/
def del (L : List (κ × ν)) (k : κ) : List (κ × ν) := L.filter (fun p => decide (p.1 ≠ k))

theorem get_nil (k : κ) : get ([] : List (κ × ν)) k = none := rfl
theorem get_cons (p : κ × ν) (L : List (κ × ν)) (k : κ) : get (p :: L) k = if p.1 = k then some p.2 else get L k := by
  unfold get; rw [List.find?_cons]; by_cases h : p.1 = k <;> simp [h]

theorem get_append (L M : List (κ × ν)) (k : κ) : get (L ++ M) k = (get L k).or (get M k) := by
  induction L with
  | nil => simp [get_nil]
  | cons p L ih => rw [List.cons_append, get_cons, get_cons, ih]; split <;> simp

theorem hask_get (L : List (κ × ν)) (k : κ) : hask L k = (get L k).isSome := by
  induction L with
  | nil => rfl
  | cons p L ih => rw [get_cons]; simp only [hask, List.any_cons] at ih ⊢; by_cases h : p.1 = k <;> simp [h, ih]

theorem get_none_iff (L : List (κ × ν)) (k : κ) : get L k = none ↔ ∀ p ∈ L, p.1 ≠ k := by
  induction L with
  | nil => simp [get_nil]
  | cons p L ih => rw [get_cons]; by_cases h : p.1 = k <;> simp [h, ih]

theorem get_some_mem {L : List (κ × ν)} {k : κ} {v : ν} (h : get L k = some v) : (k, v) ∈ L := by
  induction L with
  | nil => simp [get_nil] at h
  | cons p L ih =>
    rw [get_cons] at h
    by_cases e : p.1 = k
    · simp [e] at h; subst h; subst e; simp
    · simp [e] at h; simp [ih h]

theorem get_of_mem {L : List (κ × ν)} {k : κ} {v : ν} (hn : (L.map Prod.fst).Nodup) (h : (k, v) ∈ L) : get L k = some v := by
  induction L with
  | nil => simp at h
  | cons p L ih =>
    rw [List.map_cons, List.nodup_cons] at hn
    rw [get_cons]
    rcases List.mem_cons.1 h with e | h
    · subst e; simp
    · have : p.1 ≠ k := fun e => hn.1 (by rw [e]; exact List.mem_map.2 ⟨(k, v), h, rfl⟩)
      simp [this, ih hn.2 h]

theorem get_map_repl (L : List (κ × ν)) (k : κ) (v : ν) (j : κ) : get (L.map (fun p => if p.1 = k then (k, v) else p)) j = if j = k then (if hask L k then some v else none) else get L j := by
  induction L with
  | nil => simp [get_nil, hask]
  | cons p L ih =>
    simp only [List.map_cons, get_cons, ih, hask, List.any_cons]
    by_cases h1 : p.1 = k
    · by_cases h2 : j = k
      · subst h2; simp [h1]
      · have : ¬ k = j := fun e => h2 e.symm
        simp [h1, h2, this]
    · by_cases h2 : j = k
      · subst h2; simp only [h1, if_false, if_true, decide_false, Bool.false_or]; rfl
      · simp [h1, h2]

theorem get_put (L : List (κ × ν)) (k : κ) (v : ν) (j : κ) : get (put L k v) j = if j = k then some v else get L j := by
  unfold put
  by_cases h : hask L k = true
  · rw [if_pos h, get_map_repl, h]; simp
  · rw [if_neg h, get_append, get_cons, get_nil]
    by_cases e : j = k
    · subst e
      have : get L j = none := by rw [hask_get] at h; simpa using h
      simp [this]
    · have : ¬ k = j := fun x => e x.symm
      simp [e, this]

theorem get_del (L : List (κ × ν)) (k j : κ) : get (del L k) j = if j = k then none else get L j := by
  unfold del
  induction L with
  | nil => simp [get_nil]
  | cons p L ih =>
    rw [List.filter_cons]
    by_cases h : p.1 = k
    · have hd : (decide (p.1 ≠ k)) = false := by simp [h]
      rw [if_neg (by simp [h]), ih, get_cons]
      by_cases e : j = k
      · simp [e]
      · have : ¬ p.1 = j := fun x => e (x.symm.trans h)
        simp [e, this]
    · rw [if_pos (by simp [h]), get_cons, get_cons, ih]
      by_cases e : j = k
      · subst e; simp [h]
      · simp [e]

theorem keys_put (L : List (κ × ν)) (k : κ) (v : ν) : (put L k v).map Prod.fst = if hask L k then L.map Prod.fst else L.map Prod.fst ++ [k] := by
  unfold put
  by_cases h : hask L k = true
  · rw [if_pos h, if_pos h, List.map_map]
    refine List.map_congr_left (fun p _ => ?_)
    simp only [Function.comp]
    by_cases e : p.1 = k <;> simp [e]
  · rw [if_neg h, if_neg h]; simp

theorem hask_iff (L : List (κ × ν)) (k : κ) : hask L k = true ↔ k ∈ L.map Prod.fst := by
  simp [hask]

theorem nodup_put {L : List (κ × ν)} (h : (L.map Prod.fst).Nodup) (k : κ) (v : ν) : ((put L k v).map Prod.fst).Nodup := by
  rw [keys_put]
  by_cases e : hask L k = true
  · rw [if_pos e]; exact h
  · rw [if_neg e]
    rw [hask_iff] at e
    refine List.nodup_append.2 ⟨h, by simp, ?_⟩
    intro a ha b hb
    simp at hb
    subst hb
    intro e'
    subst e'
    exact e ha

theorem nodup_del {L : List (κ × ν)} (h : (L.map Prod.fst).Nodup) (k : κ) : ((del L k).map Prod.fst).Nodup :=
  (List.filter_sublist.map Prod.fst).nodup h

theorem length_put (L : List (κ × ν)) (k : κ) (v : ν) : (put L k v).length = if hask L k then L.length else L.length + 1 := by
  unfold put; split <;> simp

theorem mem_put {L : List (κ × ν)} {k : κ} {v : ν} {p : κ × ν} (h : p ∈ put L k v) : p = (k, v) ∨ (p ∈ L ∧ p.1 ≠ k) := by
  unfold put at h
  split at h
  · obtain ⟨q, hq, e⟩ := List.mem_map.1 h
    by_cases c : q.1 = k
    · rw [if_pos c] at e; exact .inl e.symm
    · rw [if_neg c] at e; subst e; exact .inr ⟨hq, c⟩
  · rename_i hh
    rcases List.mem_append.1 h with h | h
    · refine .inr ⟨h, fun e => hh ((hask_iff L k).2 (List.mem_map.2 ⟨p, h, e⟩))⟩
    · simp at h; exact .inl h

end

section
variable {κ ν : Type}

/-- Block b of w is a map of just these keys and elements, in some order. -/
def IsMap (P : Program) (kt : TypeId) (ke : κ → Value) (ve : ν → Value) (w : World) (b : Nat) (L : List (κ × ν)) : Prop :=
  ∃ es clock, w.heap[b]? = some (.map es clock) ∧ Stamped es clock ∧ es.toList.map (fun e => (e.key, e.val)) = L.map (fun p => (ke p.1, ve p.2)) ∧ (L.map Prod.fst).Nodup ∧ ∀ p ∈ L, ∃ l, keyOf P kt (ke p.1) = some l

variable {P : Program} {kt : TypeId} {ke : κ → Value} {ve : ν → Value} {w w' : World} {b : Nat} {L : List (κ × ν)}

theorem IsMap.lt (h : IsMap P kt ke ve w b L) : b < w.heap.size := by
  obtain ⟨es, clock, hb, _⟩ := h; exact (Array.getElem?_eq_some_iff.1 hb).1

theorem IsMap.chg {S : Nat → Prop} (h : IsMap P kt ke ve w b L) (hc : Chg S w w') (hn : ¬ S b) : IsMap P kt ke ve w' b L := by
  obtain ⟨es, clock, hb, r⟩ := h; exact ⟨es, clock, hc.heap hb hn, r⟩

theorem IsMap.nodup (h : IsMap P kt ke ve w b L) : (L.map Prod.fst).Nodup := by obtain ⟨_, _, _, _, _, hn, _⟩ := h; exact hn
theorem IsMap.good (h : IsMap P kt ke ve w b L) : ∀ p ∈ L, ∃ l, keyOf P kt (ke p.1) = some l := by obtain ⟨_, _, _, _, _, _, hg⟩ := h; exact hg
/-- Two places of one world that both hold maps of one kind, at one block, hold the same keys. -/
theorem IsMap.ne_cells {v : Value} {p : Addr} (h : IsMap P kt ke ve w b L) (hc : w.cell? p = some v) : p.block ≠ b := by
  obtain ⟨es, clock, hb, _⟩ := h
  intro e
  simp [World.cell?, e, hb] at hc

theorem IsMap.made (P : Program) (kt : TypeId) (ke : κ → Value) (ve : ν → Value) (w : World) : IsMap P kt ke ve (w.alloc (.map #[] 0)) w.heap.size [] :=
  ⟨#[], 0, (MapKept.heap_alloc w _).1, stamped_empty 0, rfl, by simp, by simp⟩

theorem entries_length {es : Array MapEntry} (he : es.toList.map (fun e => (e.key, e.val)) = L.map (fun p => (ke p.1, ve p.2))) : es.size = L.length := by
  have := congrArg List.length he
  simpa using this

theorem mem_entries {es : Array MapEntry} (he : es.toList.map (fun e => (e.key, e.val)) = L.map (fun p => (ke p.1, ve p.2))) {e : MapEntry} (h : e ∈ es.toList) : ∃ p ∈ L, e.key = ke p.1 ∧ e.val = ve p.2 := by
  have : (e.key, e.val) ∈ L.map (fun p => (ke p.1, ve p.2)) := by rw [← he]; exact List.mem_map.2 ⟨e, h, rfl⟩
  obtain ⟨p, hp, hpe⟩ := List.mem_map.1 this
  simp only [Prod.mk.injEq] at hpe
  exact ⟨p, hp, hpe.1.symm, hpe.2.symm⟩

theorem at_entries {es : Array MapEntry} (he : es.toList.map (fun e => (e.key, e.val)) = L.map (fun p => (ke p.1, ve p.2))) {j : Nat} {e : MapEntry} (h : es.toList[j]? = some e) : ∃ p, L[j]? = some p ∧ e.key = ke p.1 ∧ e.val = ve p.2 := by
  have h1 : (es.toList.map (fun e => (e.key, e.val)))[j]? = some (e.key, e.val) := by rw [List.getElem?_map, h]; rfl
  rw [he, List.getElem?_map] at h1
  cases hp : L[j]? with
  | none => rw [hp] at h1; simp at h1
  | some p => rw [hp] at h1; simp only [Option.map_some, Option.some.injEq, Prod.mk.injEq] at h1; exact ⟨p, rfl, h1.1.symm, h1.2.symm⟩

theorem map_set {α β : Type} (f : α → β) : ∀ (l : List α) (j : Nat) (x : α), (l.set j x).map f = (l.map f).set j (f x)
  | [], _, _ => by simp
  | _ :: _, 0, _ => by simp
  | a :: r, j + 1, x => by simp

end

section
variable {κ ν : Type} [DecidableEq κ]
variable {P : Program} {kt : TypeId} {ke : κ → Value} {ve : ν → Value} {w w' : World} {b : Nat} {L : List (κ × ν)}

theorem find_entries (K : Keyed P kt) (hinj : ∀ {x y}, ke x = ke y → x = y) {es : Array MapEntry} (he : es.toList.map (fun e => (e.key, e.val)) = L.map (fun p => (ke p.1, ve p.2)))
    (hn : (L.map Prod.fst).Nodup) (hg : ∀ p ∈ L, ∃ l, keyOf P kt (ke p.1) = some l) (k : κ) {l : Lit} (hk : keyOf P kt (ke k) = some l) (w : World) :
    ((Instr.findKey kt (ke k) es.toList).run P w = .ok none w ∧ get L k = none ∧ ∀ e ∈ es.toList, e.key ≠ ke k) ∨
    ∃ j e v, (Instr.findKey kt (ke k) es.toList).run P w = .ok (some (j, e.val)) w ∧ es.toList[j]? = some e ∧ e.key = ke k ∧ L[j]? = some (k, v) ∧ e.val = ve v ∧ get L k = some v := by
  have hes : ∀ e ∈ es.toList, ∃ l, keyOf P kt e.key = some l := fun e h => by
    obtain ⟨p, hp, e1, _⟩ := mem_entries he h
    rw [e1]; exact hg p hp
  rcases K.find w hk es.toList hes with ⟨h1, h2⟩ | ⟨j, e, h1, h2, h3⟩
  · refine .inl ⟨h1, (get_none_iff L k).2 (fun p hp hpk => ?_), h2⟩
    have : (ke p.1, ve p.2) ∈ es.toList.map (fun e => (e.key, e.val)) := by rw [he]; exact List.mem_map.2 ⟨p, hp, rfl⟩
    obtain ⟨e, hem, hee⟩ := List.mem_map.1 this
    simp only [Prod.mk.injEq] at hee
    exact h2 e hem (by rw [hee.1, hpk])
  · obtain ⟨p, hp, e1, e2⟩ := at_entries he h2
    have hpk : p.1 = k := hinj (e1.symm.trans h3)
    obtain ⟨p1, p2⟩ := p
    simp only at hpk e2
    subst hpk
    exact .inr ⟨j, e, p2, h1, h2, h3, hp, e2, get_of_mem hn (List.mem_of_getElem? hp)⟩

/-- 'm[k]', 'v, ok := m[k]'. -/
theorem IsMap.lookup (h : IsMap P kt ke ve w b L) (K : Keyed P kt) (hinj : ∀ {x y}, ke x = ke y → x = y) {t e : TypeId} (ht : P.underlying t = some (.map kt e)) {z : Value} (hz : ∀ w, (zeroValue e).run P w = .ok z w) (k : κ) {l : Lit} (hk : keyOf P kt (ke k) = some l) (c : Bool) :
    (Instr.lookup t (.map (some b)) (ke k) c).run P w = .ok (match get L k with | some v => if c then .tuple #[ve v, .bool true] else ve v | none => if c then .tuple #[z, .bool false] else z) w := by
  obtain ⟨es, clock, hb, _, he, hn, hg⟩ := h
  rcases find_entries K hinj he hn hg k hk w with ⟨h1, h2, _⟩ | ⟨j, x, v, h1, _, _, _, h5, h6⟩
  · rw [h2]
    simp [Instr.lookup, run_underlying ht, MapKept.run_getObj_map hb, K.check w _ hk, h1, hz w, Result.andThen]
  · rw [h6]
    simp [Instr.lookup, run_underlying ht, MapKept.run_getObj_map hb, K.check w _ hk, h1, Result.andThen, h5]

/-- 'm[k]' on a nil map. -/
theorem lookup_nil (K : Keyed P kt) {t e : TypeId} (ht : P.underlying t = some (.map kt e)) {z : Value} (hz : ∀ w, (zeroValue e).run P w = .ok z w) (key : Value) {l : Lit} (hk : keyOf P kt key = some l) (c : Bool) (w : World) :
    (Instr.lookup t (.map none) key c).run P w = .ok (if c then .tuple #[z, .bool false] else z) w := by
  rcases K.find w hk [] (by simp) with ⟨h1, _⟩ | ⟨j, x, _, h2, _⟩
  · simp [Instr.lookup, run_underlying ht, K.check w _ hk, h1, hz w, Result.andThen]
  · simp at h2

theorem set_eq_map_repl (hn : (L.map Prod.fst).Nodup) {j : Nat} {k : κ} {v0 : ν} (hj : L[j]? = some (k, v0)) (v : ν) : L.set j (k, v) = L.map (fun p => if p.1 = k then (k, v) else p) := by
  induction L generalizing j with
  | nil => simp at hj
  | cons p L ih =>
    rw [List.map_cons, List.nodup_cons] at hn
    cases j with
    | zero =>
      simp at hj
      subst hj
      simp only [List.set_cons_zero, List.map_cons, if_true]
      congr 1
      conv => lhs; rw [← List.map_id L]
      refine List.map_congr_left (fun q hq => ?_)
      have : q.1 ≠ k := fun e => hn.1 (by show k ∈ _; rw [← e]; exact List.mem_map.2 ⟨q, hq, rfl⟩)
      simp [this]
    | succ j =>
      simp at hj
      have : p.1 ≠ k := fun e => hn.1 (by rw [e]; exact List.mem_map.2 ⟨(k, v0), List.mem_of_getElem? hj, rfl⟩)
      simp [this, ih hn.2 hj]

/-- 'm[k] = v'. -/
theorem IsMap.update (h : IsMap P kt ke ve w b L) (K : Keyed P kt) (hinj : ∀ {x y}, ke x = ke y → x = y) {t e : TypeId} (ht : P.underlying t = some (.map kt e)) (k : κ) (v : ν) {l : Lit} (hk : keyOf P kt (ke k) = some l) :
    ∃ w', (Instr.mapUpdate t (.map (some b)) (ke k) (ve v)).run P w = .ok () w' ∧ IsMap P kt ke ve w' b (put L k v) ∧ (∀ S, S b → Chg S w w') ∧ w'.heap.size = w.heap.size := by
  obtain ⟨es, clock, hb, hst, he, hn, hg⟩ := h
  have hlt := (Array.getElem?_eq_some_iff.1 hb).1
  have hset : ∀ o, (setBlock w b o).heap[b]? = some o := fun o => by
    show (w.heap.setIfInBounds b o)[b]? = _
    simp [Array.getElem?_setIfInBounds, hlt]
  have hgood : ∀ p ∈ put L k v, ∃ l, keyOf P kt (ke p.1) = some l := fun p hp => by
    rcases mem_put hp with rfl | ⟨hp, _⟩
    · exact ⟨l, hk⟩
    · exact hg p hp
  rcases find_entries K hinj he hn hg k hk w with ⟨h1, h2, h3⟩ | ⟨j, x, v0, h1, h2, h3, h4, h5, h6⟩
  · refine ⟨setBlock w b (.map (es.push { key := ke k, val := ve v, born := clock }) (clock + 1)), ?_, ⟨_, _, hset _, stamped_push hst h3, ?_, nodup_put hn k v, hgood⟩, fun S hS => (Chg.refl S w).setBlock b _ (fun _ => hS), by simp [ChangeMaps.setBlock]⟩
    · simp [Instr.mapUpdate, run_underlying ht, MapKept.run_getObj_map hb, K.check w _ hk, h1, MapKept.run_setObj_map _ hb, Result.andThen, ChangeMaps.setBlock]
    · have : hask L k = false := by rw [hask_get, h2]; rfl
      simp only [put, this, Bool.false_eq_true, if_false, Array.toList_push, List.map_append, he, List.map_cons, List.map_nil]
  · have hjs : es[j]? = some x := by simpa using h2
    refine ⟨setBlock w b (.map (es.modify j fun e => { e with key := ke k, val := ve v }) clock), ?_, ⟨_, _, hset _, stamped_modify hst _ _ (fun _ _ => rfl) (fun e' _ he' => by rw [hjs] at he'; cases he'; exact h3.symm), ?_, nodup_put hn k v, hgood⟩, fun S hS => (Chg.refl S w).setBlock b _ (fun _ => hS), by simp [ChangeMaps.setBlock]⟩
    · simp [Instr.mapUpdate, run_underlying ht, MapKept.run_getObj_map hb, K.check w _ hk, h1, hjs, h3, K.stays w hk, MapKept.run_setObj_map _ hb, Result.andThen, ChangeMaps.setBlock]
    · have hh : hask L k = true := by rw [hask_get, h6]; rfl
      have hm : (es.modify j fun e => { e with key := ke k, val := ve v }).toList = es.toList.set j { x with key := ke k, val := ve v } := by
        apply List.ext_getElem?
        intro i
        rw [Array.getElem?_toList, Array.getElem?_modify, List.getElem?_set]
        by_cases hij : j = i
        · subst hij
          have hjl : j < es.toList.length := (List.getElem?_eq_some_iff.1 h2).1
          simp only [hjs, if_true, Option.map_some, if_pos hjl]
        · simp [hij]
      rw [hm, map_set, he]
      simp only [put, hh, if_true]
      rw [← set_eq_map_repl hn h4 v, map_set]

theorem del_eq_eraseIdx {k : κ} : ∀ {L : List (κ × ν)} {j : Nat} {v0 : ν}, (L.map Prod.fst).Nodup → L[j]? = some (k, v0) → del L k = L.eraseIdx j
  | [], _, _, _, h => by simp at h
  | p :: L, 0, v0, hn, h => by
    rw [List.map_cons, List.nodup_cons] at hn
    simp at h
    subst h
    unfold del
    rw [List.filter_cons, if_neg (by simp), List.eraseIdx_cons_zero]
    exact List.filter_eq_self.2 (fun q hq => by
      have : q.1 ≠ k := fun e => hn.1 (by show k ∈ _; rw [← e]; exact List.mem_map.2 ⟨q, hq, rfl⟩)
      simpa using this)
  | p :: L, j + 1, v0, hn, h => by
    rw [List.map_cons, List.nodup_cons] at hn
    simp at h
    have : p.1 ≠ k := fun e => hn.1 (by rw [e]; exact List.mem_map.2 ⟨(k, v0), List.mem_of_getElem? h, rfl⟩)
    unfold del
    rw [List.filter_cons, if_pos (by simpa using this), List.eraseIdx_cons_succ]
    congr 1
    exact del_eq_eraseIdx hn.2 h

/-- 'delete(m, k)'. -/
theorem IsMap.delete (h : IsMap P kt ke ve w b L) (K : Keyed P kt) (hinj : ∀ {x y}, ke x = ke y → x = y) {t e ty : TypeId} (ht : P.underlying t = some (.map kt e)) (k : κ) {l : Lit} (hk : keyOf P kt (ke k) = some l) :
    ∃ w', (Builtin.delete_ #[t, kt] ty #[.map (some b), ke k]).run P w = .ok (.tuple #[]) w' ∧ IsMap P kt ke ve w' b (del L k) ∧ (∀ S, S b → Chg S w w') ∧ w'.heap.size = w.heap.size := by
  obtain ⟨es, clock, hb, hst, he, hn, hg⟩ := h
  have hlt := (Array.getElem?_eq_some_iff.1 hb).1
  have hset : ∀ o, (setBlock w b o).heap[b]? = some o := fun o => by
    show (w.heap.setIfInBounds b o)[b]? = _
    simp [Array.getElem?_setIfInBounds, hlt]
  have hgood : ∀ p ∈ del L k, ∃ l, keyOf P kt (ke p.1) = some l := fun p hp => hg p (List.mem_filter.1 hp).1
  rcases find_entries K hinj he hn hg k hk w with ⟨h1, h2, h3⟩ | ⟨j, x, v0, h1, h2, h3, h4, h5, h6⟩
  · refine ⟨setBlock w b (.map es clock), ?_, ⟨_, _, hset _, hst, ?_, nodup_del hn k, hgood⟩, fun S hS => (Chg.refl S w).setBlock b _ (fun _ => hS), by simp [ChangeMaps.setBlock]⟩
    · simp [Builtin.delete_, run_underlying ht, MapKept.run_getObj_map hb, K.check w _ hk, h1, MapKept.run_setObj_map _ hb, Result.andThen, ChangeMaps.setBlock]
    · have : del L k = L := List.filter_eq_self.2 (fun p hp => by simpa using (get_none_iff L k).1 h2 p hp)
      rw [this, he]
  · have hjl : j < es.toList.length := (List.getElem?_eq_some_iff.1 h2).1
    have hjs : j < es.size := by simpa using hjl
    have hsub : (es.eraseIdxIfInBounds j).toList = es.toList.eraseIdx j := by
      unfold Array.eraseIdxIfInBounds
      rw [dif_pos hjs]
      simp
    refine ⟨setBlock w b (.map (es.eraseIdxIfInBounds j) clock), ?_, ⟨_, _, hset _, stamped_erase hst j, ?_, nodup_del hn k, hgood⟩, fun S hS => (Chg.refl S w).setBlock b _ (fun _ => hS), by simp [ChangeMaps.setBlock]⟩
    · simp [Builtin.delete_, run_underlying ht, MapKept.run_getObj_map hb, K.check w _ hk, h1, MapKept.run_setObj_map _ hb, Result.andThen, ChangeMaps.setBlock]
    · have hd := del_eq_eraseIdx hn h4
      rw [hsub, hd, ChangeMaps.map_eraseIdx, he, ChangeMaps.map_eraseIdx]

end

section
variable {κ ν : Type}
variable {P : Program} {kt : TypeId} {ke : κ → Value} {ve : ν → Value} {w w' : World} {b : Nat} {L : List (κ × ν)}

/-- 'len(m)'. -/
theorem IsMap.len (h : IsMap P kt ke ve w b L) {t ty e : TypeId} (ht : P.underlying t = some (.map kt e)) : (Builtin.len_ #[t] ty #[.map (some b)]).run P w = .ok (.int .i64 L.length) w := by
  obtain ⟨es, clock, hb, _, he, _⟩ := h
  have := entries_length he
  simp [Builtin.len_, Builtin.lenOf, run_underlying ht, MapKept.run_getObj_map hb, Result.andThen, this, goInt]

/-- A range over the map at b is under way, its iterator at r: M is still to come. -/
def IsIter (P : Program) (kt : TypeId) (ke : κ → Value) (ve : ν → Value) (w : World) (b r : Nat) (L M : List (κ × ν)) : Prop :=
  ∃ es clock since seen c0, w.heap[b]? = some (.map es clock) ∧ Stamped es clock ∧ es.toList.map (fun e => (e.key, e.val)) = L.map (fun p => (ke p.1, ve p.2)) ∧ (L.map Prod.fst).Nodup ∧ (∀ p ∈ L, ∃ l, keyOf P kt (ke p.1) = some l) ∧
    w.heap[r]? = some (.mapIter (some b) since seen c0) ∧ (∀ x ∈ es.toList, x.born < since) ∧ since ≤ c0 ∧ since ≤ clock ∧ (leftOf es seen).toList.map (fun e => (e.key, e.val)) = M.map (fun p => (ke p.1, ve p.2)) ∧ M.Sublist L

theorem IsIter.map {r : Nat} {M : List (κ × ν)} (h : IsIter P kt ke ve w b r L M) : IsMap P kt ke ve w b L := by
  obtain ⟨es, clock, _, _, _, hb, hst, he, hn, hg, _⟩ := h; exact ⟨es, clock, hb, hst, he, hn, hg⟩

theorem IsIter.lt {r : Nat} {M : List (κ × ν)} (h : IsIter P kt ke ve w b r L M) : r < w.heap.size := by
  obtain ⟨es, clock, since, seen, c0, _, _, _, _, _, hr, _⟩ := h; exact (Array.getElem?_eq_some_iff.1 hr).1

theorem IsIter.sub {r : Nat} {M : List (κ × ν)} (h : IsIter P kt ke ve w b r L M) : M.Sublist L := by
  obtain ⟨es, clock, since, seen, c0, _, _, _, _, _, _, _, _, _, _, hs⟩ := h; exact hs

theorem IsIter.chg {S : Nat → Prop} {r : Nat} {M : List (κ × ν)} (h : IsIter P kt ke ve w b r L M) (hc : Chg S w w') (hb : ¬ S b) (hr : ¬ S r) : IsIter P kt ke ve w' b r L M := by
  obtain ⟨es, clock, since, seen, c0, h1, h2, h3, h4, h5, h6, rest⟩ := h
  exact ⟨es, clock, since, seen, c0, hc.heap h1 hb, h2, h3, h4, h5, hc.heap h6 hr, rest⟩

/-- 'range m'. -/
theorem IsMap.range (h : IsMap P kt ke ve w b L) {t e : TypeId} (ht : P.underlying t = some (.map kt e)) :
    ∃ w', (Instr.range t (.map (some b))).run P w = .ok (.pointer (some ⟨w.heap.size, 0, none⟩)) w' ∧ IsIter P kt ke ve w' b w.heap.size L L ∧ Chg No w w' ∧ w'.heap.size = w.heap.size + 1 := by
  have hlt := h.lt
  obtain ⟨es, clock, hb, hst, he, hn, hg⟩ := h
  refine ⟨_, run_range_map w t kt e b es clock ht hb, ⟨es, clock, clock, #[], clock, ((MapKept.heap_alloc w _).2 b hlt).trans hb, hst, he, hn, hg, (MapKept.heap_alloc w _).1, hst.1, Nat.le_refl _, Nat.le_refl _, ?_, List.Sublist.refl _⟩, (Chg.refl _ w).alloc _, by simp⟩
  have : leftOf es #[] = es := Array.filter_eq_self.2 (fun x _ => by simp)
  rw [this, he]

theorem filter_corr {α β γ : Type} {f : α → γ} {g : β → γ} {p : α → Bool} {q : β → Bool} : ∀ {A : List α} {B : List β}, A.map f = B.map g → (∀ x ∈ A, ∀ y ∈ B, f x = g y → p x = q y) → (A.filter p).map f = (B.filter q).map g
  | [], [], _, _ => rfl
  | [], _ :: _, h, _ => by simp at h
  | _ :: _, [], h, _ => by simp at h
  | a :: A, b :: B, h, hpq => by
    simp only [List.map_cons, List.cons.injEq] at h
    have h1 := hpq a (by simp) b (by simp) h.1
    have h2 := filter_corr h.2 (fun x hx y hy => hpq x (by simp [hx]) y (by simp [hy]))
    rw [List.filter_cons, List.filter_cons, h1]
    by_cases hb : q b = true
    · rw [if_pos hb, if_pos hb, List.map_cons, List.map_cons, h.1, h2]
    · rw [if_neg hb, if_neg hb, h2]

theorem inj_of_nodup {α β : Type} {f : α → β} : ∀ {l : List α}, (l.map f).Nodup → ∀ {x y}, x ∈ l → y ∈ l → f x = f y → x = y
  | [], _, x, y, hx, _, _ => by simp at hx
  | a :: l, hn, x, y, hx, hy, e => by
    rw [List.map_cons, List.nodup_cons] at hn
    rcases List.mem_cons.1 hx with hx | hx
    · rcases List.mem_cons.1 hy with hy | hy
      · rw [hx, hy]
      · exact absurd (show f a ∈ l.map f from List.mem_map.2 ⟨y, hy, by rw [← hx, e]⟩) hn.1
    · rcases List.mem_cons.1 hy with hy | hy
      · exact absurd (show f a ∈ l.map f from List.mem_map.2 ⟨x, hx, by rw [e, hy]⟩) hn.1
      · exact inj_of_nodup hn.2 hx hy e

theorem born_ne_iff {es : Array MapEntry} {clock : Nat} (h : Stamped es clock) {x y : MapEntry} (hx : x ∈ es.toList) (hy : y ∈ es.toList) : x.born = y.born ↔ x.key = y.key := by
  exact ⟨fun e => by rw [inj_of_nodup h.2.1 hx hy e], fun e => by rw [inj_of_nodup h.2.2 hx hy e]⟩

end

section
variable {κ ν : Type} [DecidableEq κ]
variable {P : Program} {kt : TypeId} {ke : κ → Value} {ve : ν → Value} {w w' : World} {b : Nat} {L : List (κ × ν)}

/-- A step of the range. -/
theorem IsIter.next {r : Nat} {M : List (κ × ν)} (h : IsIter P kt ke ve w b r L M) (hinj : ∀ {x y}, ke x = ke y → x = y) (ty : TypeId) :
    (M = [] ∧ (Instr.next (.pointer (some ⟨r, 0, none⟩)) false ty).run P w = .ok (.tuple #[.bool false]) w) ∨
    ∃ p w', p ∈ M ∧ (Instr.next (.pointer (some ⟨r, 0, none⟩)) false ty).run P w = .ok (.tuple #[.bool true, ke p.1, ve p.2]) w' ∧ IsIter P kt ke ve w' b r L (del M p.1) ∧ (∀ S, S r → Chg S w w') ∧ w'.heap.size = w.heap.size ∧
      (Instr.entry (.pointer (some ⟨r, 0, none⟩))).run P w' = .ok (.tuple #[ke p.1, ve p.2]) w' := by
  obtain ⟨es, clock, since, seen, c0, hb, hst, he, hn, hg, hr, hold, hsc, hsk, hM, hsub⟩ := h
  have hrlt := (Array.getElem?_eq_some_iff.1 hr).1
  have hne : r ≠ b := by intro e; rw [e, hb] at hr; cases hr
  rcases run_next_at (P := P) w ty r b since c0 seen es clock hr hb hold hsc with ⟨h0, hrun⟩ | ⟨e, hel, w1, hal, hrun⟩
  · refine .inl ⟨?_, hrun⟩
    have h1 := congrArg List.length hM
    simp only [List.length_map, Array.length_toList] at h1
    exact List.eq_nil_of_length_eq_zero (by omega)
  · right
    obtain ⟨p, hp, e1, e2⟩ := mem_entries (L := M) hM hel
    have hes : e ∈ es.toList := by
      simp only [leftOf, Array.toList_filter, List.mem_filter] at hel
      exact hel.1
    have hw1 : w1.heap = w.heap := by rcases hal with rfl | rfl <;> rfl
    have hset : ∀ o, (setBlock w1 r o).heap[r]? = some o := fun o => by
      show (w1.heap.setIfInBounds r o)[r]? = _
      rw [hw1]
      simp [Array.getElem?_setIfInBounds, hrlt]
    have hoth : ∀ o, (setBlock w1 r o).heap[b]? = some (.map es clock) := fun o => by
      show (w1.heap.setIfInBounds r o)[b]? = _
      rw [hw1, Array.getElem?_setIfInBounds, if_neg hne]; exact hb
    have hchg : ∀ S, S r → ∀ o, Chg S w (setBlock w1 r o) := fun S hS o => by
      have c1 : Chg S w w1 := by
        rcases hal with rfl | rfl
        · exact Chg.refl S _
        · exact (Chg.refl S _).drew
      exact c1.setBlock r o (fun _ => hS)
    refine ⟨p, _, hp, by rw [← e1, ← e2]; exact hrun, ⟨es, clock, since, seen.push e.born, clock, hoth _, hst, he, hn, hg, hset _, hold, hsk, hsk, ?_, List.filter_sublist.trans hsub⟩, fun S hS => hchg S hS _, by simp [ChangeMaps.setBlock, hw1], ?_⟩
    · have hl : (leftOf es (seen.push e.born)).toList = (leftOf es seen).toList.filter (fun x => decide (x.born ≠ e.born)) := by
        simp only [leftOf, Array.toList_filter, List.filter_filter]
        refine List.filter_congr (fun x _ => ?_)
        by_cases hx : x.born = e.born <;> simp [hx]
      rw [hl]
      unfold del
      refine filter_corr hM (fun x hx q hq hxq => ?_)
      simp only [Prod.mk.injEq] at hxq
      have hxe : x ∈ es.toList := by
        simp only [leftOf, Array.toList_filter, List.mem_filter] at hx
        exact hx.1
      have := born_ne_iff hst hxe hes
      rw [hxq.1, e1] at this
      have h2 : (ke q.1 = ke p.1) ↔ q.1 = p.1 := ⟨fun h => hinj h, fun h => by rw [h]⟩
      rw [decide_eq_decide]
      rw [Ne, Ne, this, h2]
    · have := run_entry_at (P := P) (setBlock w1 r (.mapIter (some b) since (seen.push e.born) clock)) r b since seen es clock e (hset _) (hoth _) hes hst.2.1
      rw [this, e1, e2]

end

/-! ### slices -/

/-- What the append law asks of a slice type and its element. -/
structure EI (P : Program) (t e : TypeId) (z : Value) (size bytes : Nat) : Prop where
  ht : P.underlying t = some (.slice e)
  info : (P.info? e).map (fun i => (i.zero, i.size, i.bytes)) = some (some z, size, bytes)
  zs : z.cells.size = size
  pos : 0 < size
  bpos : 0 < bytes

/-- From the address a on there are just these cells. -/
def Rd (w : World) (a : Addr) (cs : List Value) : Prop := ∀ j u, cs[j]? = some u → w.cell? (a.add j) = some u

theorem Addr.add_block (a : Addr) (j : Nat) : (a.add j).block = a.block := by unfold Addr.add; split <;> rfl

theorem Rd.chg {S : Nat → Prop} {w w' : World} {a : Addr} {cs : List Value} (h : Rd w a cs) (hc : Chg S w w') (hn : ¬ S a.block) : Rd w' a cs :=
  fun j u hu => hc.cell (h j u hu) (by rw [Addr.add_block]; exact hn)

theorem Rd.nil (w : World) (a : Addr) : Rd w a [] := fun j u hu => by simp at hu

/-- A slice value that reads as these cells (n elements). -/
def Sl (w : World) (v : Value) (n : Nat) (cs : List Value) : Prop := ∃ a c, v = .slice a n c ∧ n ≤ c ∧ c ≤ maxLen ∧ (a = none → n = 0 ∧ c = 0 ∧ cs = []) ∧ ∀ ad, a = some ad → Rd w ad cs

/-- The block of a slice lies at or beyond B (or it is nil). -/
def Fresh (B : Nat) (v : Value) : Prop := ∀ a n c, v = .slice (some a) n c → B ≤ a.block

theorem Sl.chg {S : Nat → Prop} {w w' : World} {v : Value} {n : Nat} {cs : List Value} (h : Sl w v n cs) (hc : Chg S w w') (hn : ∀ a n c, v = .slice (some a) n c → ¬ S a.block) : Sl w' v n cs := by
  obtain ⟨a, c, rfl, h1, h2, h3, h4⟩ := h
  refine ⟨a, c, rfl, h1, h2, h3, fun ad e => ?_⟩
  subst e
  exact (h4 ad rfl).chg hc (hn ad _ _ rfl)

theorem Sl.ofOwns {w : World} {B e size : Nat} {v : Value} {n : Nat} {xs : List Value} (h : w.ownsRow B e size v n xs) : Sl w v n xs := by
  obtain ⟨hl, h2⟩ := h
  rcases h2 with ⟨rfl, rfl⟩ | ⟨g, cap, cur, rfl, hb, hg, hn, hm, hs, ht⟩
  · refine ⟨none, 0, rfl, Nat.le_refl _, Nat.zero_le _, fun _ => ⟨rfl, rfl, ?_⟩, fun ad e => by cases e⟩
    exact List.eq_nil_of_length_eq_zero (by omega)
  · refine ⟨_, cap, rfl, hn, hm, (fun e => by cases e), fun ad e => ?_⟩
    cases e
    have := World.ownsRow.cells (w := w) (base := B) (e := e) (size := size) ⟨hl, .inr ⟨g, cap, cur, rfl, hb, hg, hn, hm, hs, ht⟩⟩ (g := g) rfl
    exact this

theorem Fresh.ofOwns {w : World} {B e size : Nat} {v : Value} {n : Nat} {xs : List Value} (h : w.ownsRow B e size v n xs) : Fresh B v := by
  intro a n' c hv
  exact (h.lt a.block (by rw [hv]; rfl)).1

theorem ownsRow_chg {S : Nat → Prop} {w w' : World} {B e size : Nat} {v : Value} {n : Nat} {xs : List Value} (h : w.ownsRow B e size v n xs) (hc : Chg S w w') (hn : ∀ k, v.ownBlock = some k → ¬ S k) : w'.ownsRow B e size v n xs := by
  refine ⟨h.1, ?_⟩
  rcases h.2 with h2 | ⟨g, cap, cur, rfl, hb, hg, rest⟩
  · exact .inl h2
  · exact .inr ⟨g, cap, cur, rfl, hb, hc.heap hg (hn g rfl), rest⟩

theorem ownsRow_mono {w : World} {B B' e size : Nat} {v : Value} {n : Nat} {xs : List Value} (h : w.ownsRow B e size v n xs) (hB : B' ≤ B) : w.ownsRow B' e size v n xs := by
  refine ⟨h.1, ?_⟩
  rcases h.2 with h2 | ⟨g, cap, cur, rfl, hb, rest⟩
  · exact .inl h2
  · exact .inr ⟨g, cap, cur, rfl, by omega, rest⟩

/-- A slice literal's new row. -/
theorem ownsRow_lit {w : World} {cs : List Value} {B e size : Nat} (n : Nat) (hB : B ≤ w.heap.size) (hm : n ≤ maxLen) (hs : cs.length = n * size) : (w.alloc (.cells cs.toArray e)).ownsRow B e size (.slice (some ⟨w.heap.size, 0, none⟩) n n) n cs :=
  ⟨hs, .inr ⟨w.heap.size, n, cs.toArray, rfl, hB, heap_alloc_new w _, Nat.le_refl _, hm, by simpa using hs, by simp [← hs]⟩⟩

section
variable {P : Program} {w : World} {ops : Array Oper} {rest : List Oper} {o : Oper} {a : Act} {Q : Exit → Act → World → Prop}

/-- 'append(s, x...)', s owned, x read. -/
theorem st_append {t e : TypeId} {z : Value} {size bytes : Nat} (I : EI P t e z size bytes) (hgd : o.guard = none) {s x : Operand} (ho : o.op = .call { callee := .builtin .append, args := #[s, x], argTypes := #[t, t] })
    {B : Nat} {v : Value} {n : Nat} {xs : List Value} (hown : w.ownsRow B e size v n xs) (hs : a.eval s = v) {ad : Addr} {m c : Nat} {news : List Value} (hnews : Rd w ad news) (hx : a.eval x = .slice (some ad) m c) (hl : news.length = m * size) (h1 : ∀ u ∈ news, u.oneCell' = true)
    (hlim : (n + m) * bytes ≤ 140737488355328) (hB : B ≤ w.heap.size)
    (h : ∀ v' w', w'.ownsRow B e size v' (n + m) (xs ++ news) → w.grownBy w' v.ownBlock → (v' = .slice none 0 0 ↔ v = .slice none 0 0 ∧ m = 0) → wpList P ops Q rest (a.put o.dst v') w') : wpList P ops Q (o :: rest) a w := by
  obtain ⟨i0, hi, hz0, hz1, hz2⟩ := info_parts I.info
  refine wpList_append_own _ hgd _ _ t ho B e i0 z size bytes I.ht hi hz0 hz1 hz2 I.zs I.pos v n xs hs hown ad m c news hx hl hnews h1 ?_ hlim hB h
  have := I.bpos
  have h2 : n + m ≤ (n + m) * bytes := Nat.le_mul_of_pos_right _ this
  simp only [maxLen]
  omega

/-- 'append(s, x...)', s owned, x any slice that reads as these cells (nil too). -/
theorem st_append_sl {t e : TypeId} {z : Value} {size bytes : Nat} (I : EI P t e z size bytes) (hgd : o.guard = none) {s x : Operand} (ho : o.op = .call { callee := .builtin .append, args := #[s, x], argTypes := #[t, t] })
    {B : Nat} {v : Value} {n : Nat} {xs : List Value} (hown : w.ownsRow B e size v n xs) (hs : a.eval s = v) {xv : Value} {m : Nat} {news : List Value} (hsl : Sl w xv m news) (hx : a.eval x = xv) (hl : news.length = m * size) (h1 : ∀ u ∈ news, u.oneCell' = true)
    (hlim : (n + m) * bytes ≤ 140737488355328) (hB : B ≤ w.heap.size)
    (h : ∀ v' w', w'.ownsRow B e size v' (n + m) (xs ++ news) → w.grownBy w' v.ownBlock → wpList P ops Q rest (a.put o.dst v') w') : wpList P ops Q (o :: rest) a w := by
  obtain ⟨ad, c, rfl, hmc, hcm, h3, h4⟩ := hsl
  cases ad with
  | none =>
    obtain ⟨rfl, rfl, rfl⟩ := h3 rfl
    obtain ⟨i0, hi, hz0, hz1, hz2⟩ := info_parts I.info
    refine wpList_append_own_none hgd s x t ho B e i0 size I.ht hi v n xs hs hown hx ?_
    refine h v w ?_ ⟨rfl, rfl, rfl, Nat.le_refl _, fun _ _ _ => rfl⟩
    simpa using hown
  | some ad => exact st_append I hgd ho hown hs (h4 ad rfl) hx hl h1 hlim hB (fun v' w' h1 h2 _ => h v' w' h1 h2)

end


/-! ### a block of cells known whole -/

/-- Block b is just these cells, of this type, and may be written. -/
def Blk (w : World) (b : Nat) (cs : Array Value) (t : TypeId) : Prop := w.heap[b]? = some (.cells cs t (0, 0))

section
variable {w w' : World} {b : Nat} {cs : Array Value} {t : TypeId}

theorem Blk.new (w : World) (cs : Array Value) (t : TypeId) : Blk (w.alloc (.cells cs t)) w.heap.size cs t := heap_alloc_new w _
theorem Blk.lt (h : Blk w b cs t) : b < w.heap.size := (Array.getElem?_eq_some_iff.1 h).1
theorem Blk.chg {S : Nat → Prop} (h : Blk w b cs t) (hc : Chg S w w') (hn : ¬ S b) : Blk w' b cs t := hc.heap h hn
theorem Blk.alloc (h : Blk w b cs t) (o : Obj) : Blk (w.alloc o) b cs t := h.chg ((Chg.refl No w).alloc o) (fun e => e)
theorem Blk.cell (h : Blk w b cs t) : ∀ i, w.cell? ⟨b, i, none⟩ = cs[i]? := fun i => by unfold Blk at h; simp [World.cell?, h]
theorem Blk.free (h : Blk w b cs t) : ∀ i, w.frozen? ⟨b, i, none⟩ = false := fun i => by unfold Blk at h; simp [World.frozen?, h]
theorem Blk.set (h : Blk w b cs t) (i : Nat) (u : Value) : Blk (w.setCell ⟨b, i, none⟩ u) b (cs.setIfInBounds i u) t := by
  have hlt := h.lt
  unfold Blk at h ⊢
  have h' : w.heap[b] = .cells cs t (0, 0) := by simpa [Array.getElem?_eq_getElem hlt] using h
  show (w.heap.modify b _)[b]? = _
  rw [Array.getElem?_eq_getElem (by simpa using hlt), Array.getElem_modify_self, h']
  rfl
theorem Blk.setOther {b' : Nat} (h : Blk w b cs t) (i : Nat) (u : Value) (hne : b ≠ b') : Blk (w.setCell ⟨b', i, none⟩ u) b cs t := by
  unfold Blk at h ⊢
  rw [Below.heap_setCell _ _ _ _ hne]; exact h
theorem Blk.ne {b' : Nat} {cs' : Array Value} {t' : TypeId} (h : Blk w b cs t) (h' : Blk w b' cs' t') (ht : t ≠ t') : b ≠ b' := by
  intro e
  subst e
  unfold Blk at h h'
  rw [h] at h'
  injection h' with h'
  injection h' with _ h'
  exact ht h'
end

theorem hid {p : Prop} (h : p) : Hid p := h


/-! ### a range over a map, at the operations -/

section
variable {κ ν : Type} {P : Program} {kt : TypeId} {ke : κ → Value} {ve : ν → Value} {w w' : World} {b : Nat} {L : List (κ × ν)}

/-- How many entries are still to come, read off the world: a loop's measure. -/
theorem IsIter.left {r : Nat} {M : List (κ × ν)} (h : IsIter P kt ke ve w b r L M) : w.rangeLeft b r = M.length := by
  obtain ⟨es, clock, since, seen, c0, hb, _, _, _, _, hr, _, _, _, hM, _⟩ := h
  simp only [World.rangeLeft, hb, hr]
  have := congrArg List.length hM
  simpa using this

variable {ops : Array Oper} {rest : List Oper} {o : Oper} {a : Act} {Q : Exit → Act → World → Prop}

theorem st_range (h : IsMap P kt ke ve w b L) {t e : TypeId} (ht : P.underlying t = some (.map kt e)) (hg : o.guard = none) {m : Operand} (hop : o.op = Op.range t m) (hm : a.eval m = .map (some b))
    (hK : ∀ w', IsIter P kt ke ve w' b w.heap.size L L → Chg No w w' → w'.heap.size = w.heap.size + 1 → wpList P ops Q rest (a.put o.dst (.pointer (some ⟨w.heap.size, 0, none⟩))) w') : wpList P ops Q (o :: rest) a w := by
  refine wpList_plain hg fun K' hK' => ?_
  obtain ⟨w', hrun, r1, r2, r3⟩ := h.range ht
  unfold Oper.wp
  simp [execOp, hop, hm, hrun, Result.andThen]
  exact hK' _ _ (hK w' r1 r2 r3)

theorem st_next [DecidableEq κ] {r : Nat} {M : List (κ × ν)} (h : IsIter P kt ke ve w b r L M) (hinj : ∀ {x y}, ke x = ke y → x = y) (hg : o.guard = none) {it : Operand} (hop : o.op = Op.next it false) (hit : a.eval it = .pointer (some ⟨r, 0, none⟩))
    (hDone : M = [] → wpList P ops Q rest (a.put o.dst (.tuple #[.bool false])) w)
    (hMore : ∀ (p : κ × ν) (w' : World), p ∈ M → IsIter P kt ke ve w' b r L (del M p.1) → (∀ S, S r → Chg S w w') → w'.heap.size = w.heap.size →
      (Instr.entry (.pointer (some ⟨r, 0, none⟩))).run P w' = .ok (.tuple #[ke p.1, ve p.2]) w' → wpList P ops Q rest (a.put o.dst (.tuple #[.bool true, ke p.1, ve p.2])) w') : wpList P ops Q (o :: rest) a w := by
  refine wpList_plain hg fun K' hK' => ?_
  unfold Oper.wp
  rcases h.next hinj o.type with ⟨h0, hrun⟩ | ⟨p, w', hp, hrun, r1, r2, r3, r4⟩
  · simp [execOp, hop, hit, hrun, Result.andThen]
    exact hK' _ _ (hDone h0)
  · simp [execOp, hop, hit, hrun, Result.andThen]
    exact hK' _ _ (hMore p w' hp r1 r2 r3 r4)
end

/-! ### orders of what comes out of a map -/

/-- What has come and what is still to come are together the whole. -/
theorem del_perm {κ ν : Type} [DecidableEq κ] {M : List (κ × ν)} {p : κ × ν} (hn : (M.map Prod.fst).Nodup) (hp : p ∈ M) : M.Perm (p :: del M p.1) := by
  induction M with
  | nil => simp at hp
  | cons q M ih =>
    rw [List.map_cons, List.nodup_cons] at hn
    unfold del
    rcases List.mem_cons.1 hp with e | hp
    · subst e
      rw [List.filter_cons, if_neg (by simp)]
      have : M.filter (fun x => decide (x.1 ≠ p.1)) = M := List.filter_eq_self.2 (fun x hx => by
        have : x.1 ≠ p.1 := fun e => hn.1 (by rw [← e]; exact List.mem_map.2 ⟨x, hx, rfl⟩)
        simpa using this)
      rw [this]
    · have : q.1 ≠ p.1 := fun e => hn.1 (by rw [e]; exact List.mem_map.2 ⟨p, hp, rfl⟩)
      rw [List.filter_cons, if_pos (by simpa using this)]
      exact ((ih hn.2 hp).cons q).trans (List.Perm.swap p q _)

theorem del_length {κ ν : Type} [DecidableEq κ] {M : List (κ × ν)} {p : κ × ν} (hn : (M.map Prod.fst).Nodup) (hp : p ∈ M) : (del M p.1).length + 1 = M.length := by
  have := (del_perm hn hp).length_eq
  simpa using this.symm


theorem Rd.new (w : World) (cs : List Value) (e : TypeId) : Rd (w.alloc (.cells cs.toArray e)) ⟨w.heap.size, 0, none⟩ cs := by
  intro j u hu
  have h := (Blk.new w cs.toArray e).cell j
  have e1 : (⟨w.heap.size, 0, none⟩ : Addr).add j = ⟨w.heap.size, j, none⟩ := by unfold Addr.add; split <;> simp_all
  rw [e1, h]
  simpa using hu

/-- A row that is owned is no block of another kind. -/
theorem owns_ne_obj {w : World} {B e size : Nat} {v : Value} {n : Nat} {xs : List Value} (h : w.ownsRow B e size v n xs) {r : Nat} {o : Obj} (hr : w.heap[r]? = some o) (ho : ∀ c t f, o ≠ .cells c t f) : ∀ k, v.ownBlock = some k → k ≠ r := by
  intro k hk e'
  subst e'
  rcases h.2 with ⟨hv, _⟩ | ⟨g', cap, cur, hv, _, hg', _⟩
  · rw [hv] at hk; simp [Value.ownBlock] at hk
  · rw [hv] at hk
    simp [Value.ownBlock] at hk
    subst hk
    rw [hr] at hg'
    cases hg'
    exact ho _ _ _ rfl

theorem IsIter.iter {κ ν : Type} {P : Program} {kt : TypeId} {ke : κ → Value} {ve : ν → Value} {w : World} {b r : Nat} {L M : List (κ × ν)} (h : IsIter P kt ke ve w b r L M) : ∃ m s n c, w.heap[r]? = some (.mapIter m s n c) := by
  obtain ⟨es, clock, since, seen, c0, _, _, _, _, _, hr, _⟩ := h; exact ⟨_, _, _, _, hr⟩

theorem IsMap.obj {κ ν : Type} {P : Program} {kt : TypeId} {ke : κ → Value} {ve : ν → Value} {w : World} {b : Nat} {L : List (κ × ν)} (h : IsMap P kt ke ve w b L) : ∃ es c, w.heap[b]? = some (.map es c) := by
  obtain ⟨es, clock, hb, _⟩ := h; exact ⟨_, _, hb⟩


/-! ### keys that are structs of whole numbers -/

theorem mapM_some {α β : Type} {g : α → Option β} : ∀ {l : List α}, (∀ x ∈ l, ∃ y, g x = some y) → ∃ ys, l.mapM g = some ys
  | [], _ => ⟨[], rfl⟩
  | x :: l, h => by
    obtain ⟨y, hy⟩ := h x (by simp)
    obtain ⟨ys, hys⟩ := mapM_some (l := l) (fun z hz => h z (by simp [hz]))
    exact ⟨y :: ys, by rw [List.mapM_cons, hy, hys]; rfl⟩

theorem keyOf_ints {P : Program} {k e : TypeId} {fs : Array Field} {n m : Nat} {q : IntKind} (hu : P.underlying k = some (.struct fs)) (hkt : P.keyType k = true) (hc : P.cellsOf k = n) (hne : fs.all (·.name != "_") = true) (hsz : P.types.size = m + 1)
    (hf : ∀ f ∈ fs.toList, f.type = e ∧ f.offset < n) (he : P.underlying e = some (.int q)) (hce : P.cellsOf e = 1) (xs : List Int) (hl : xs.length = n) (hw : ∀ x ∈ xs, (Lit.int q x).wf = true) :
    ∃ l, keyOf P k (.agg (xs.map (Value.int q)).toArray) = some l := by
  unfold keyOf
  simp only [hu]
  rw [if_pos (by simp [hkt, Value.formed, hu, hc, hl]), hsz]
  unfold Program.keyLits
  simp only [hu, Value.cells]
  rw [if_pos ⟨by simp [hc, hl], hne⟩]
  obtain ⟨ys, hys⟩ := mapM_some (g := fun f : Field => P.keyLits (m + 1) f.type (((xs.map (Value.int q)).drop f.offset).take (P.cellsOf f.type))) (l := fs.toList) (fun f hfm => by
    obtain ⟨h1, h2⟩ := hf f hfm
    have hx : f.offset < xs.length := by omega
    have e1 : ((xs.map (Value.int q)).drop f.offset).take 1 = [Value.int q xs[f.offset]] := by
      rw [← List.map_drop, ← List.map_take, List.drop_eq_getElem_cons hx]
      rfl
    refine ⟨[.int q xs[f.offset]], ?_⟩
    simp only [h1, hce, e1]
    unfold Program.keyLits
    simp only [he]
    rw [if_pos ⟨trivial, hw _ (List.getElem_mem _)⟩])
  rw [hys]
  exact ⟨_, rfl⟩


/-! ### a world under a name, with the facts that are wanted of it -/

theorem wp_world {P : Program} {c : Code} {Q : Exit → Act → World → Prop} {a : Act} {W : World} (F : World → Prop) (hf : F W) (h : ∀ w0, F w0 → c.wp P Q a w0) : c.wp P Q a W := h W hf
theorem calls_world {P : Program} {f : FuncId} {args : Array Value} {R : Ending → World → Prop} {W : World} (F : World → Prop) (hf : F W) (h : ∀ w0, F w0 → Calls P f args w0 R) : Calls P f args W R := h W hf
theorem wpl_world {P : Program} {ops : Array Oper} {l : List Oper} {Q : Exit → Act → World → Prop} {a : Act} {W : World} (F : World → Prop) (hf : F W) (h : ∀ w0, F w0 → wpList P ops Q l a w0) : wpList P ops Q l a W := h W hf
theorem upon_world {P : Program} {o : Oper} {a : Act} {K : Act → World → Prop} {Q : Exit → Act → World → Prop} {W : World} (F : World → Prop) (hf : F W) (h : ∀ w0, F w0 → o.wp P a w0 K Q) : o.wp P a W K Q := h W hf

/-- The block that has just been made, at a number that is told. -/
theorem Blk.newAt {w : World} {b : Nat} (cs : Array Value) (t : TypeId) (h : w.heap.size = b) : Blk (w.alloc (.cells cs t)) b cs t := by subst h; exact Blk.new _ _ _

theorem Blk.c {w : World} {b : Nat} {cs : Array Value} {t : TypeId} (h : Blk w b cs t) (i : Nat) {v : Value} (hv : cs[i]? = some v) : w.cell? ⟨b, i, none⟩ = some v := by rw [h.cell, hv]


section
variable {κ ν : Type} [DecidableEq κ] {P : Program} {kt : TypeId} {ke : κ → Value} {ve : ν → Value} {w : World} {b : Nat} {L : List (κ × ν)}

theorem IsMap.look_some (h : IsMap P kt ke ve w b L) (K : Keyed P kt) (hinj : ∀ {x y}, ke x = ke y → x = y) {t e : TypeId} (ht : P.underlying t = some (.map kt e)) {z : Value} (hz : ∀ w, (zeroValue e).run P w = .ok z w) (k : κ) {l : Lit} (hk : keyOf P kt (ke k) = some l) {v : ν} (hg : get L k = some v) :
    (Instr.lookup t (.map (some b)) (ke k) true).run P w = .ok (.tuple #[ve v, .bool true]) w ∧ (Instr.lookup t (.map (some b)) (ke k) false).run P w = .ok (ve v) w := by
  have h1 := h.lookup K hinj ht hz k hk true
  have h2 := h.lookup K hinj ht hz k hk false
  rw [hg] at h1 h2
  exact ⟨h1, h2⟩

theorem IsMap.look_none (h : IsMap P kt ke ve w b L) (K : Keyed P kt) (hinj : ∀ {x y}, ke x = ke y → x = y) {t e : TypeId} (ht : P.underlying t = some (.map kt e)) {z : Value} (hz : ∀ w, (zeroValue e).run P w = .ok z w) (k : κ) {l : Lit} (hk : keyOf P kt (ke k) = some l) (hg : get L k = none) :
    (Instr.lookup t (.map (some b)) (ke k) true).run P w = .ok (.tuple #[z, .bool false]) w ∧ (Instr.lookup t (.map (some b)) (ke k) false).run P w = .ok z w := by
  have h1 := h.lookup K hinj ht hz k hk true
  have h2 := h.lookup K hinj ht hz k hk false
  rw [hg] at h1 h2
  exact ⟨h1, h2⟩

end

theorem IsMap.chgNo {κ ν : Type} {P : Program} {kt : TypeId} {ke : κ → Value} {ve : ν → Value} {w : World} {b : Nat} {L : List (κ × ν)} (h : IsMap P kt ke ve w b L) {w' : World} (hc : Chg No w w') : IsMap P kt ke ve w' b L := h.chg hc (fun e => e)

theorem Blk.chgNo {w w' : World} {b : Nat} {cs : Array Value} {t : TypeId} (h : Blk w b cs t) (hc : Chg No w w') : Blk w' b cs t := h.chg hc (fun e => e)

end Go.Px
