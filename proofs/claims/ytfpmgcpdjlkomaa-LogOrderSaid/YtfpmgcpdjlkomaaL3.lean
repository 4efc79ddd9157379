/- Comparisons and the closures that At and From hand over, by contracts. -/
import Derived.Test.YtfpmgcpdjlkomaaL2
import Derived.Sort.Grow
namespace Go.Proofs.Ytfpmgcpdjlkomaa
open Go.RowKit Go.Px
set_option maxHeartbeats 400000
set_option maxRecDepth 100000

def cmpI (a b : Int) : Int := if a < b then -1 else if b < a then 1 else 0
def cmpL : List Int → List Int → Int
  | x :: xs, y :: ys => if x = y then cmpL xs ys else cmpI x y
  | _, _ => 0

theorem cmpL_diff : ∀ {xs ys : List Int} {k : Nat} {x y : Int}, xs.take k = ys.take k → xs[k]? = some x → ys[k]? = some y → x ≠ y → cmpL xs ys = cmpI x y
  | [], _, _, _, _, _, h, _, _ => by simp at h
  | _ :: _, [], _, _, _, _, _, h, _ => by simp at h
  | a :: xs, b :: ys, 0, x, y, _, h1, h2, hne => by
    simp at h1 h2
    subst h1; subst h2
    rw [cmpL, if_neg hne]
  | a :: xs, b :: ys, k + 1, x, y, h, h1, h2, hne => by
    simp at h h1 h2
    rw [cmpL, if_pos h.1]
    exact cmpL_diff h.2 h1 h2 hne

theorem cmpL_same (xs : List Int) : cmpL xs xs = 0 := by
  induction xs with
  | nil => rfl
  | cons x xs ih => rw [cmpL, if_pos rfl, ih]

theorem cmpI_ne {x y : Int} (h : x ≠ y) : (cmpI x y == 0) = false := by
  unfold cmpI
  by_cases h1 : x < y
  · rw [if_pos h1]; rfl
  · rw [if_neg h1, if_pos (by omega)]; rfl

theorem ret_i64 {a b : Int} (h : a = b) : Ending.returned (.int .i64 a) = .returned (.int .i64 b) := by rw [h]

theorem cmp_any (x y : Int) (w : World) : Calls Try.prog 40 #[.int .i64 x, .int .i64 y] w fun e w' => e = .returned (.int .i64 (cmpI x y)) ∧ w = w' := by
  by_cases h1 : x < y
  · have E : Hid (cmpI x y = -1) := by show cmpI x y = -1; unfold cmpI; rw [if_pos h1]
    go_enter Try.func40, Try.ntmps40
    go_wp2
    go_ret
    exact ⟨ret_i64 E.out.symm, rfl⟩
  · by_cases h2 : y < x
    · have E : Hid (cmpI x y = 1) := by show cmpI x y = 1; unfold cmpI; rw [if_neg h1, if_pos h2]
      go_enter Try.func40, Try.ntmps40
      go_wp2
      go_ret
      exact ⟨ret_i64 E.out.symm, rfl⟩
    · have E : Hid (cmpI x y = 0) := by show cmpI x y = 0; unfold cmpI; rw [if_neg h1, if_neg h2]
      go_enter Try.func40, Try.ntmps40
      go_wp2
      go_ret
      exact ⟨ret_i64 E.out.symm, rfl⟩

theorem compare_any (w : World) (p q : Nat) (xs ys : List Int) (hl : xs.length = ys.length) (hm : xs.length ≤ 9223372036854775807)
    (hx : ∀ i, w.cell? ⟨p, i, none⟩ = (xs.map (Value.int .i64))[i]?) (hy : ∀ i, w.cell? ⟨q, i, none⟩ = (ys.map (Value.int .i64))[i]?) :
    Calls Try.prog 34 #[.slice (some ⟨p, 0, none⟩) xs.length xs.length, .slice (some ⟨q, 0, none⟩) ys.length ys.length] w fun e w' => e = .returned (.int .i64 (cmpL xs ys)) ∧ w = w' := by
  rw [← hl]
  obtain ⟨n, hn⟩ : ∃ n, n = xs.length := ⟨_, rfl⟩
  rw [← hn] at hm ⊢
  have HX := hid hx
  have HY := hid hy
  have HN := hid hn
  have HL := hid hl
  clear hx hy hn hl
  go_enter Try.func34, Try.ntmps34
  go_wp2_with fail
  go_loop [11] (fun i => ∃ k : Nat, k ≤ n ∧ i = .int .i64 k ∧ Hid (xs.take k = ys.take k)) (fun i => n - (intOf i).toNat)
  case atStart => exact ⟨0, Nat.zero_le _, rfl, rfl⟩
  case round =>
    obtain ⟨k, hk, rfl, hH⟩ := hrel
    by_cases hlt : k < n
    · obtain ⟨x, hxk⟩ : ∃ x, xs[k]? = some x := ⟨xs[k]'(by rw [← HN.out]; exact hlt), List.getElem?_eq_getElem _⟩
      obtain ⟨y, hyk⟩ : ∃ y, ys[k]? = some y := ⟨ys[k]'(by rw [← HL.out, ← HN.out]; exact hlt), List.getElem?_eq_getElem _⟩
      have cx : w.cell? ⟨p, k, none⟩ = some (.int .i64 x) := by rw [HX.out, List.getElem?_map, hxk]; rfl
      have cy : w.cell? ⟨q, k, none⟩ = some (.int .i64 y) := by rw [HY.out, List.getElem?_map, hyk]; rfl
      have X := hid hxk
      have Y := hid hyk
      clear hxk hyk
      by_cases hxy : x = y
      · subst hxy
        have ec : cmpI x x = 0 := by unfold cmpI; simp
        go_wp2_with (go_at_call 40; refine (cmp_any _ _ _).mono ?_; rintro e w' ⟨rfl, rfl⟩)
        go_round
        case rel => exact ⟨k + 1, by omega, by go_num, by
          show xs.take (k + 1) = ys.take (k + 1)
          rw [List.take_add_one, List.take_add_one, hH.out, X.out, Y.out]⟩
        case measure => simp [intOf]; omega
      · have ec : (cmpI x y == 0) = false := cmpI_ne hxy
        have ec' : (cmpI x y != 0) = true := by rw [bne, ec]; rfl
        have hfin := hid (cmpL_diff hH.out X.out Y.out hxy)
        clear ec
        go_wp2_with (go_at_call 40; refine (cmp_any _ _ _).mono ?_; rintro e w' ⟨rfl, rfl⟩)
        go_ret
        exact ⟨ret_i64 hfin.out.symm, rfl⟩
    · go_wp2_with fail
      go_ret
      refine ⟨ret_i64 ?_, rfl⟩
      have h1 := hH.out
      rw [List.take_of_length_le (by rw [← HN.out]; omega), List.take_of_length_le (by rw [← HL.out, ← HN.out]; omega)] at h1
      rw [h1, cmpL_same]

/-- A key: tick, player, number. -/
structure Key where
  t : Int
  p : Int
  s : Int
deriving DecidableEq

def Key.val (k : Key) : Value := .agg #[.int .i64 k.t, .int .i64 k.p, .int .i64 k.s]
def Key.l (k : Key) : List Int := [k.t, k.p, k.s]

theorem alloc_grow (w : World) (o : Obj) : w.alloc o = Go.Sort.grow w #[o] := by
  unfold Go.Sort.grow World.alloc
  rw [Array.push_eq_append]

/-- The comparison that the log sorts by. -/
theorem keysCmp (a b : Key) (w : World) : Calls Try.prog 33 #[a.val, b.val] w fun e w' => e = .returned (.int .i64 (cmpL a.l b.l)) ∧ ∃ q os', w' = Go.Sort.grow (w.drewN q) os' := by
  obtain ⟨a1, a2, a3⟩ := a
  obtain ⟨b1, b2, b3⟩ := b
  unfold Key.val Key.l
  dsimp only
  go_enter Try.func33, Try.ntmps33
  go_wp2_with fail
  obtain ⟨w1, hw1⟩ : ∃ w1, ((w.alloc (.cells #[.int .i64 a1, .int .i64 a2, .int .i64 a3] 40)).alloc (.cells #[.int .i64 b1, .int .i64 b2, .int .i64 b3] 40)).alloc (.cells #[.int .i64 a1, .int .i64 a2, .int .i64 a3] 3) = w1 := ⟨_, rfl⟩
  have z1 : w1.heap.size = w.heap.size + 3 := by subst hw1; simp
  have k1 : Blk w1 (w.heap.size + 2) #[.int .i64 a1, .int .i64 a2, .int .i64 a3] 3 := by
    subst hw1; have := Blk.new ((w.alloc (.cells #[.int .i64 a1, .int .i64 a2, .int .i64 a3] 40)).alloc (.cells #[.int .i64 b1, .int .i64 b2, .int .i64 b3] 40)) #[.int .i64 a1, .int .i64 a2, .int .i64 a3] 3; simpa using this
  have k2 := k1.alloc (.cells #[.int .i64 b1, .int .i64 b2, .int .i64 b3] 3)
  have k3 := Blk.new w1 #[.int .i64 b1, .int .i64 b2, .int .i64 b3] 3
  rw [z1] at k3
  have hc := compare_any (w1.alloc (.cells #[.int .i64 b1, .int .i64 b2, .int .i64 b3] 3)) (w.heap.size + 2) (w.heap.size + 3) [a1, a2, a3] [b1, b2, b3] rfl (by simp) (fun i => by rw [k2.cell]; simp) (fun i => by rw [k3.cell]; simp)
  rw [hw1]
  simp only [List.length_cons, List.length_nil, Nat.zero_add, Nat.reduceAdd] at hc
  have E := hid hw1
  clear hw1 k1 k2 k3
  refine hc.mono ?_
  rintro e w' ⟨rfl, rfl⟩
  clear hc z1
  go_wp2_with fail
  go_ret
  refine ⟨rfl, 0, ?os, ?h⟩
  case h => rw [← E.out, alloc_grow, alloc_grow, alloc_grow, alloc_grow, Go.Sort.grow_grow, Go.Sort.grow_grow, Go.Sort.grow_grow]; rfl

theorem at_closure (k : Key) (tick : Int) (t : Nat) (w : World) (h : w.cell? ⟨t, 0, none⟩ = some (.int .i64 tick)) (ht : t < w.heap.size) : Calls Try.prog 26 #[k.val, .pointer (some ⟨t, 0, none⟩)] w fun e w' => e = .returned (.bool (k.t == tick)) ∧ Chg No w w' := by
  obtain ⟨a1, a2, a3⟩ := k
  unfold Key.val
  go_enter Try.func26, Try.ntmps26
  go_wp2_with fail
  go_ret
  exact ⟨rfl, (Chg.refl No w).alloc _⟩

theorem from_closure (k : Key) (tick : Int) (t : Nat) (w : World) (h : w.cell? ⟨t, 0, none⟩ = some (.int .i64 tick)) (ht : t < w.heap.size) : Calls Try.prog 36 #[k.val, .pointer (some ⟨t, 0, none⟩)] w fun e w' => e = .returned (.bool (decide (tick ≤ k.t))) ∧ Chg No w w' := by
  obtain ⟨a1, a2, a3⟩ := k
  unfold Key.val
  go_enter Try.func36, Try.ntmps36
  go_wp2_with fail
  go_ret
  exact ⟨rfl, (Chg.refl No w).alloc _⟩

end Go.Proofs.Ytfpmgcpdjlkomaa
