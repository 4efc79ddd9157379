/- Own library: a region that draws its order, by a plan: operations that yield their value in every world that meets S may be taken first; the others must be forced. No program in it. -/
import Derived.OrdersHeld
import Derived.Deep.MidRow
import Derived.Test.YtfpmgcpdjlkomaaPx
namespace Go.Px
open Go.RowKit

section
variable {P : Program} {ops : Array Oper} {Q : Exit → Act → World → Prop} {S : World → Prop}

def planOk (ops : Array Oper) : List (Bool × Nat) → Array Bool → Bool
  | [], listed => (Region.ready .any ops listed).isEmpty
  | (true, i) :: rest, listed => Region.free .any ops listed i && (Region.ready .any ops listed).contains i && planOk ops rest (listed.setIfInBounds i true)
  | (false, i) :: rest, listed => (Region.ready .any ops listed == [i]) && planOk ops rest (listed.setIfInBounds i true)

def wpPlan (P : Program) (ops : Array Oper) (Q : Exit → Act → World → Prop) (S : World → Prop) : List (Bool × Nat) → Act → World → Prop
  | [], a, w => Q .normal a w
  | (true, i) :: rest, a, w => ∃ oi v, ops[i]? = some oi ∧ YieldsIf P ops S oi v a ∧ wpPlan P ops Q S rest (a.put oi.dst v) w
  | (false, i) :: rest, a, w => wpOp P ops Q i (fun a' w' => S w' ∧ wpPlan P ops Q S rest a' w') a w

theorem plan_sound (hs : Region.noSelect ops = true) (hQ : ∀ (d : Option Tmp) (v : Value) c a w, Q (.panic c) (a.put d v) w → Q (.panic c) a w) :
    ∀ (pl : List (Bool × Nat)) (fuel : Nat) (listed : Array Bool) (a : Act) (w : World), pl.length ≤ fuel → planOk ops pl listed = true → S w → wpPlan P ops Q S pl a w → wpAnyH P .any ops Q S fuel listed a w
  | [], fuel, listed, a, w, _, hok, _, h => by
    have hr : Region.ready .any ops listed = [] := by simpa [planOk] using hok
    exact wpAnyH_done hr h fuel
  | (true, i) :: rest, 0, _, _, _, hl, _, _, _ => by simp at hl
  | (false, i) :: rest, 0, _, _, _, hl, _, _, _ => by simp at hl
  | (true, i) :: rest, fuel + 1, listed, a, w, hl, hok, hS, h => by
    simp only [planOk, Bool.and_eq_true] at hok
    obtain ⟨oi, v, hi, hy, h⟩ := h
    exact wpAnyH_take hi hs hok.1.1 hok.1.2 (hQ oi.dst v) hy hS (plan_sound hs hQ rest fuel _ _ w (by simpa using hl) hok.2 hS h)
  | (false, i) :: rest, fuel + 1, listed, a, w, hl, hok, hS, h => by
    simp only [planOk, Bool.and_eq_true, beq_iff_eq] at hok
    refine wpAnyH_all hok.1 (by simp) (fun j hj => ?_)
    have : j = i := by simpa using hj
    subst this
    exact wpOp_mono (fun a' w' ⟨h1, h2⟩ => ⟨h1, plan_sound hs hQ rest fuel _ a' w' (by simpa using hl) hok.2 h1 h2⟩) h

/-- THE BEGINNING. -/
theorem wp_plan {id : Nat} {a : Act} {w : World} (S : World → Prop) (pl : List (Bool × Nat)) (hm : P.follows .mixedOrders = true) (hs : Region.noSelect ops = true) (hok : (pl.length ≤ ops.size && planOk ops pl (Array.replicate ops.size false)) = true)
    (hQ : ∀ (d : Option Tmp) (v : Value) c a w, Q (.panic c) (a.put d v) w → Q (.panic c) a w) (hS : S w.drew) (h : wpPlan P ops Q S pl a w.drew) : (Code.region id ops true).wp P Q a w := by
  simp only [Bool.and_eq_true, decide_eq_true_eq] at hok
  exact wp_region_held (S := S) hm (plan_sound hs hQ pl ops.size _ a w.drew hok.1 hok.2 hS h)

theorem plan_done {a : Act} {w : World} (h : Q .normal a w) : wpPlan P ops Q S [] a w := h

/-- An operation taken first. -/
theorem plan_free {i : Nat} {o : Oper} {v : Value} {rest : List (Bool × Nat)} {a : Act} {w : World} (hi : ops[i]? = some o) (hg : Region.wanted o (yielded ops a.tmps) = true) (hrun : ∀ W, S W → (execOp a.eval o).run P W = .ok (.value v) W)
    (h : wpPlan P ops Q S rest (a.put o.dst v) w) : wpPlan P ops Q S ((true, i) :: rest) a w :=
  ⟨o, v, hi, .inl ⟨hg, hrun⟩, h⟩

/-- An operation that is forced. -/
theorem plan_step {i : Nat} {o : Oper} {rest : List (Bool × Nat)} {a : Act} {w : World} (hi : ops[i]? = some o) (hg : Region.wanted o (yielded ops a.tmps) = true)
    (h : ∀ K : Act → World → Prop, (∀ a' w', S w' → wpPlan P ops Q S rest a' w' → K a' w') → o.wp P a w K Q) : wpPlan P ops Q S ((false, i) :: rest) a w := by
  unfold wpPlan wpOp
  rw [hi]
  simp only [hg, if_true]
  exact .inl (h _ (fun a' w' h1 h2 => ⟨h1, h2⟩))

/-- An operation that is passed over. -/
theorem plan_skip {i : Nat} {b : Bool} {o : Oper} {rest : List (Bool × Nat)} {a : Act} {w : World} (hi : ops[i]? = some o) (hg : Region.wanted o (yielded ops a.tmps) = false) (hS : S w)
    (h : wpPlan P ops Q S rest (a.put o.dst undef) w) : wpPlan P ops Q S ((b, i) :: rest) a w := by
  cases b with
  | true => exact ⟨o, undef, hi, .inr ⟨hg, rfl⟩, h⟩
  | false =>
    unfold wpPlan wpOp
    rw [hi]
    simp only [hg, Bool.false_eq_true, if_false]
    exact ⟨hS, h⟩

/-- The tail, one operation behind the other, where S is asked of no world. -/
theorem plan_tail {rest : List (Bool × Nat)} {l : List Oper} {a : Act} {w : World} (hl : rest.map (fun x => ops[x.2]?) = l.map some) (hb : rest.all (fun x => !x.1) = true) (hS : ∀ w, S w) (h : wpList P ops Q l a w) : wpPlan P ops Q S rest a w := by
  induction rest generalizing l a w with
  | nil =>
    cases l with
    | nil => exact h
    | cons o l => simp at hl
  | cons x rest ih =>
    cases l with
    | nil => simp at hl
    | cons o l =>
      obtain ⟨b, i⟩ := x
      simp only [List.map_cons, List.cons.injEq] at hl
      simp only [List.all_cons, Bool.and_eq_true, Bool.not_eq_true'] at hb
      obtain rfl := hb.1
      unfold wpPlan wpOp
      rw [hl.1]
      unfold wpList at h
      dsimp only
      by_cases hw : Region.wanted o (yielded ops a.tmps) = true
      · rw [if_pos hw] at h ⊢
        rcases h with h | h
        · exact .inl (Oper.wp_mono (fun a' w' h' => ⟨hS _, ih hl.2 hb.2 h'⟩) h)
        · exact .inr h
      · rw [if_neg hw] at h ⊢
        exact ⟨hS _, ih hl.2 hb.2 h⟩

/-! operations that only look -/

theorem free_move {i : Nat} {d : Option Tmp} {x : Operand} {t : TypeId} {pos : String} {after : Array Edge} {g : Option (Nat × Bool)} {v : Value} {rest : List (Bool × Nat)} {a : Act} {w : World} (hi : ops[i]? = some ⟨d, .move x, t, pos, after, g⟩) (hx : a.eval x = v)
    (h : wpPlan P ops Q S rest (a.put d v) w) (hw : Region.wanted ⟨d, .move x, t, pos, after, g⟩ (yielded ops a.tmps) = true := by rfl) : wpPlan P ops Q S ((true, i) :: rest) a w :=
  plan_free hi hw (fun W _ => by simp [execOp, hx]) h


theorem free_nilCheck {i : Nat} {d : Option Tmp} {x : Operand} {t : TypeId} {pos : String} {after : Array Edge} {g : Option (Nat × Bool)} {ad : Addr} {rest : List (Bool × Nat)} {a : Act} {w : World} (hi : ops[i]? = some ⟨d, .nilCheck x, t, pos, after, g⟩) (hx : a.eval x = .pointer (some ad))
    (h : wpPlan P ops Q S rest (a.put d (.pointer (some ad))) w) (hw : Region.wanted ⟨d, .nilCheck x, t, pos, after, g⟩ (yielded ops a.tmps) = true := by rfl) : wpPlan P ops Q S ((true, i) :: rest) a w :=
  plan_free hi hw (fun W _ => by simp [execOp, hx]) h

theorem free_fieldAddr {i : Nat} {d : Option Tmp} {x : Operand} {t ty : TypeId} {f : Nat} {pos : String} {after : Array Edge} {g : Option (Nat × Bool)} {v u : Value} {rest : List (Bool × Nat)} {a : Act} {w : World} (hi : ops[i]? = some ⟨d, .fieldAddr ty x f, t, pos, after, g⟩) (hx : a.eval x = v)
    (hrun : ∀ W, (Instr.fieldAt ty v f).run P W = .ok u W) (h : wpPlan P ops Q S rest (a.put d u) w) (hw : Region.wanted ⟨d, .fieldAddr ty x f, t, pos, after, g⟩ (yielded ops a.tmps) = true := by rfl) : wpPlan P ops Q S ((true, i) :: rest) a w :=
  plan_free hi hw (fun W _ => by simp [execOp, hx, hrun]) h

theorem free_load {i : Nat} {d : Option Tmp} {x : Operand} {t ty : TypeId} {pos : String} {after : Array Edge} {g : Option (Nat × Bool)} {v u : Value} {rest : List (Bool × Nat)} {a : Act} {w : World} (hi : ops[i]? = some ⟨d, .load ty x, t, pos, after, g⟩) (hx : a.eval x = v)
    (hrun : ∀ W, S W → (Instr.loadAt ty v).run P W = .ok u W) (h : wpPlan P ops Q S rest (a.put d u) w) (hw : Region.wanted ⟨d, .load ty x, t, pos, after, g⟩ (yielded ops a.tmps) = true := by rfl) : wpPlan P ops Q S ((true, i) :: rest) a w :=
  plan_free hi hw (fun W hS => by simp [execOp, hx, hrun W hS]) h

theorem free_lookup {i : Nat} {d : Option Tmp} {x y : Operand} {t ty : TypeId} {c : Bool} {pos : String} {after : Array Edge} {g : Option (Nat × Bool)} {v u r : Value} {rest : List (Bool × Nat)} {a : Act} {w : World} (hi : ops[i]? = some ⟨d, .lookup ty x y c, t, pos, after, g⟩) (hx : a.eval x = v) (hy : a.eval y = u)
    (hrun : ∀ W, S W → (Instr.lookup ty v u c).run P W = .ok r W) (h : wpPlan P ops Q S rest (a.put d r) w) (hw : Region.wanted ⟨d, .lookup ty x y c, t, pos, after, g⟩ (yielded ops a.tmps) = true := by rfl) : wpPlan P ops Q S ((true, i) :: rest) a w :=
  plan_free hi hw (fun W hS => by simp [execOp, hx, hy, hrun W hS]) h

/-- A struct loaded from the head of a block known whole. -/
theorem load_blk {W : World} {b : Nat} {cs : Array Value} {t ty : TypeId} {fs : Array Field} (h : Blk W b cs t) (hu : P.underlying ty = some (.struct fs)) (hi : (P.info? ty).map (·.size) = some cs.size) : (Instr.loadAt ty (.pointer (some ⟨b, 0, none⟩))).run P W = .ok (.agg cs) W := by
  have := run_loadAt_mid (P := P) W b 0 ty cs.toList (.struct fs) (fun j v hv => by rw [Nat.zero_add, h.cell]; simpa using hv) hu rfl (by simpa using hi)
  simpa using this


/-- 'append(s, x...)' as an operation by itself. -/
theorem wpo_append {t e : TypeId} {z : Value} {size bytes : Nat} {o : Oper} {a : Act} {w : World} {K : Act → World → Prop} (I : EI P t e z size bytes) {s x : Operand} (ho : o.op = .call { callee := .builtin .append, args := #[s, x], argTypes := #[t, t] })
    {B : Nat} {v : Value} {n : Nat} {xs : List Value} (hown : w.ownsRow B e size v n xs) (hs : a.eval s = v) {ad : Addr} {m c : Nat} {news : List Value} (hnews : Rd w ad news) (hx : a.eval x = .slice (some ad) m c) (hl : news.length = m * size) (h1 : ∀ u ∈ news, u.oneCell' = true)
    (hlim : (n + m) * bytes ≤ 140737488355328) (hB : B ≤ w.heap.size)
    (h : ∀ v' w', w'.ownsRow B e size v' (n + m) (xs ++ news) → w.grownBy w' v.ownBlock → K (a.put o.dst v') w') : o.wp P a w K Q := by
  obtain ⟨i0, hi, hz0, hz1, hz2⟩ := info_parts I.info
  refine wp_append_own _ s x t ho B e i0 z size bytes I.ht hi hz0 hz1 hz2 I.zs I.pos v n xs hs hown ad m c news hx hl hnews h1 ?_ hlim hB (fun v' w' a b _ => h v' w' a b)
  have := I.bpos
  have h2 : n + m ≤ (n + m) * bytes := Nat.le_mul_of_pos_right _ this
  simp only [maxLen]
  omega

end
end Go.Px
