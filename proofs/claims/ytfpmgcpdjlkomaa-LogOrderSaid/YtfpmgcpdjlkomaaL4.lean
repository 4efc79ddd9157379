/- The keys of a log, sorted, by a contract. -/
import Derived.Test.YtfpmgcpdjlkomaaL3
import Derived.Test.YtfpmgcpdjlkomaaPxSort
import Derived.Test.YtfpmgcpdjlkomaaShelf
import Derived.Shelf.Abstract
namespace Go.Proofs.Ytfpmgcpdjlkomaa
open Go.RowKit Go.Px Go.Proofs Go.Shelf
set_option maxHeartbeats 400000
set_option maxRecDepth 100000

theorem Try.u64 : Try.prog.underlying 64 = some (.slice 40) := by kernel_rfl
theorem Try.info40 : (Try.prog.info? 40).map (fun i => (i.zero, i.size, i.bytes)) = some (some (.agg #[.int .i64 0, .int .i64 0, .int .i64 0]), 3, 24) := by kernel_rfl
theorem Try.E64 : EI Try.prog 64 40 (.agg #[.int .i64 0, .int .i64 0, .int .i64 0]) 3 24 := ⟨Try.u64, Try.info40, rfl, by decide, by decide⟩

theorem Key.inj {x y : Key} (h : x.val = y.val) : x = y := by
  obtain ⟨a, b, c⟩ := x
  obtain ⟨d, e, f⟩ := y
  simp [Key.val] at h
  simp [h]

def Key.cs (k : Key) : List Value := [.int .i64 k.t, .int .i64 k.p, .int .i64 k.s]
def kcells (ks : List Key) : List Value := ks.flatMap Key.cs
theorem kcells_length (ks : List Key) : (kcells ks).length = ks.length * 3 := by
  induction ks with
  | nil => rfl
  | cons k ks ih => simp [kcells, Key.cs] at ih ⊢; omega

theorem _root_.Go.Px.IsIter.nodupM {κ ν : Type} {P : Program} {kt : TypeId} {ke : κ → Value} {ve : ν → Value} {w : World} {b r : Nat} {L M : List (κ × ν)} (h : IsIter P kt ke ve w b r L M) : (M.map Prod.fst).Nodup :=
  (h.sub.map Prod.fst).nodup h.map.nodup

theorem keys_step_no {ν : Type} {ve : ν → Value} {w : World} {m r : Nat} {L M : List (Key × ν)} {ks : List Key} {q : Key → Bool} {p : Key × ν} (h : IsIter Try.prog 40 Key.val ve w m r L M) (hp : p ∈ M) (hq : q p.1 = false)
    (hperm : (ks ++ (M.map Prod.fst).filter q).Perm ((L.map Prod.fst).filter q)) : (ks ++ ((del M p.1).map Prod.fst).filter q).Perm ((L.map Prod.fst).filter q) := by
  refine List.Perm.trans ?_ hperm
  refine List.Perm.append_left _ ?_
  have h1 := ((del_perm h.nodupM hp).map Prod.fst).filter q
  rw [List.map_cons, List.filter_cons, if_neg (by simp [hq])] at h1
  exact h1.symm

theorem keys_step_yes {ν : Type} {ve : ν → Value} {w : World} {m r : Nat} {L M : List (Key × ν)} {ks : List Key} {q : Key → Bool} {p : Key × ν} (h : IsIter Try.prog 40 Key.val ve w m r L M) (hp : p ∈ M) (hq : q p.1 = true)
    (hperm : (ks ++ (M.map Prod.fst).filter q).Perm ((L.map Prod.fst).filter q)) : ((ks ++ [p.1]) ++ ((del M p.1).map Prod.fst).filter q).Perm ((L.map Prod.fst).filter q) := by
  refine List.Perm.trans ?_ hperm
  rw [List.append_assoc]
  refine List.Perm.append_left _ ?_
  have h1 := ((del_perm h.nodupM hp).map Prod.fst).filter q
  rw [List.map_cons, List.filter_cons, if_pos hq] at h1
  exact h1.symm

theorem keys_len {ν : Type} {ve : ν → Value} {w : World} {m r : Nat} {L M : List (Key × ν)} {ks : List Key} {q : Key → Bool} {p : Key × ν} (h : IsIter Try.prog 40 Key.val ve w m r L M) (hp : p ∈ M) (hq : q p.1 = true)
    (hperm : (ks ++ (M.map Prod.fst).filter q).Perm ((L.map Prod.fst).filter q)) : ks.length + 1 ≤ L.length := by
  have h1 := (keys_step_yes h hp hq hperm).length_eq
  have h2 := List.length_filter_le q (L.map Prod.fst)
  simp at h1 h2
  omega


/-- The order of keys that the log sorts by. -/
def klt (a b : Key) : Bool := decide (cmpL a.l b.l < 0)
def ksort (ks : List Key) : List Key := ks.mergeSort fun x y => !klt y x

theorem cmpI_lt {a b : Int} : cmpI a b < 0 ↔ a < b := by
  unfold cmpI
  by_cases h : a < b
  · simp [h]
  · by_cases h2 : b < a
    · simp [h, h2]
    · simp [h, h2]

theorem klt_iff (a b : Key) : klt a b = true ↔ a.t < b.t ∨ (a.t = b.t ∧ (a.p < b.p ∨ (a.p = b.p ∧ a.s < b.s))) := by
  obtain ⟨a1, a2, a3⟩ := a
  obtain ⟨b1, b2, b3⟩ := b
  simp only [klt, Key.l, cmpL, decide_eq_true_eq]
  by_cases h1 : a1 = b1
  · rw [if_pos h1]
    by_cases h2 : a2 = b2
    · rw [if_pos h2]
      by_cases h3 : a3 = b3
      · rw [if_pos h3]; omega
      · rw [if_neg h3, cmpI_lt]; omega
    · rw [if_neg h2, cmpI_lt]; omega
  · rw [if_neg h1, cmpI_lt]; omega

theorem klt_false (a b : Key) : klt a b = false ↔ ¬ (a.t < b.t ∨ (a.t = b.t ∧ (a.p < b.p ∨ (a.p = b.p ∧ a.s < b.s)))) := by
  rw [← klt_iff]; simp

theorem klt_swo : Go.Sort.SWO klt where
  irrefl x := by rw [klt_false]; omega
  trans x y z h1 h2 := by rw [klt_iff] at *; omega
  ntrans x y z h1 h2 := by rw [klt_false] at *; omega

theorem klt_total (x y : Key) (h1 : klt x y = false) (h2 : klt y x = false) : x = y := by
  rw [klt_false] at h1 h2
  obtain ⟨a1, a2, a3⟩ := x
  obtain ⟨b1, b2, b3⟩ := y
  simp only [Key.mk.injEq]
  simp only at h1 h2
  omega

theorem ksort_perm {ks ms : List Key} (h : ks.Perm ms) : ksort ks = ksort ms := by
  have tr : ∀ a b c : Key, (!klt b a) = true → (!klt c b) = true → (!klt c a) = true := fun a b c h1 h2 => by
    simp only [Bool.not_eq_true'] at *
    rw [klt_false] at *
    omega
  have tot : ∀ a b : Key, ((!klt b a) || (!klt a b)) = true := fun a b => by
    by_cases h1 : klt b a = true
    · have h2 : klt a b = false := by rw [klt_iff] at h1; rw [klt_false]; omega
      simp [h1, h2]
    · simp [h1]
  refine List.Perm.eq_of_pairwise (le := fun x y => (!klt y x) = true) ?_ (List.pairwise_mergeSort tr tot ks) (List.pairwise_mergeSort tr tot ms) ((List.mergeSort_perm _ _).trans (h.trans (List.mergeSort_perm _ _).symm))
  intro a b _ _ h1 h2
  simp only [Bool.not_eq_true'] at h1 h2
  exact klt_total a b h2 h1

instance : Inhabited Key := ⟨⟨0, 0, 0⟩⟩

theorem Try.agg40 : ∀ w, (isAgg 40).run Try.prog w = .ok true w := fun w => by kernel_rfl
theorem Try.size40 : ∀ w, (Go.sizeOf 40).run Try.prog w = .ok 3 w := fun w => by kernel_rfl

/-- The log's sort, at any row of keys. -/
theorem sort_keys {w : World} {B e : Nat} {v : Value} {n : Nat} {ks : List Key} (hown : w.ownsRow B e 3 v n (kcells ks)) (hn : ks.length = n) (hsz : n < 4611686018427387904) :
    Calls Try.prog 32 #[v, .func (.func 33) #[] #[]] w fun e' w' => e' = .returned (.tuple #[]) ∧ w'.ownsRow B e 3 v n (kcells (ksort ks)) ∧ Chg (fun j => v.ownBlock = some j) w w' := by
  have eg : ∀ args w, (callFunc 33 args).run Try.prog w = .ok (.enter 33 args) w := enters_of Try.func33 (by kernel_rfl) rfl
  refine sort_calls (k := 3) (enc := Key.cs) (fun _ => rfl) klt (fun p cap fv w => ?_) (fun blk off cap d w hH hb hs => ?_) hown hn hsz
  · exact AnyF.slices_SortFunc_none Try.sortK p cap fv w
  · exact AnyQ.slices_SortFunc_total Try.sortK 3 Try.agg40 Try.size40 Key.cs (fun _ => rfl) (fun x v hv => by simp [Key.cs] at hv; rcases hv with rfl | rfl | rfl <;> rfl) (fun a b => cmpL a.l b.l) klt_swo 33 #[] blk off cap d w eg
      (fun m os dk hs x y => keysCmp x y _) hH hb hs klt_total

/-- keys: all keys that are so, in order. -/
theorem keys_any {ν : Type} {ve : ν → Value} (w : World) (p m : Nat) (first : Int) (L : List (Key × ν)) (hblk : Blk w p #[.int .i64 first, .map (some m)] 61) (hm : IsMap Try.prog 40 Key.val ve w m L) (g : Nat) (cb : Array Value) (q : Key → Bool)
    (eg : ∀ args w, (callFunc g args).run Try.prog w = .ok (.enter g args) w)
    (hq : ∀ k W, Chg No w W → Calls Try.prog g (#[k.val] ++ cb) W fun e w' => e = .returned (.bool (q k)) ∧ Chg No W w') (hlim : L.length * 24 ≤ 140737488355328) :
    Calls Try.prog 25 #[.pointer (some ⟨p, 0, none⟩), .func (.func g) #[] cb] w fun e w' => ∃ v, e = .returned v ∧ w'.ownsRow w.heap.size 40 3 v ((L.map Prod.fst).filter q).length (kcells (ksort ((L.map Prod.fst).filter q))) ∧ Chg No w w' := by
  have hc := hblk.cell
  have c1 := hc 1
  simp at c1
  have HC := hid hc
  clear hc
  go_enter Try.func25, Try.ntmps25
  go_wp2_with (first | (go_at_call 23; refine (is_some p m _ c1).mono ?_; rintro e w' ⟨rfl, rfl⟩) | (at_range; refine st_range hm Try.u59 rfl rfl rfl ?_; intro w1 hit hch hsz))
  go_frame
  obtain ⟨r, hr⟩ : ∃ r, r = w.heap.size := ⟨_, rfl⟩
  have hB : w.heap.size ≤ r := by omega
  rw [← hr] at hit ⊢
  have HR := hid hr
  have HS := hid hsz
  clear hr hsz
  go_loopw [5] (fun v wr => ∃ M ks, IsIter Try.prog 40 Key.val ve wr m r L M ∧ wr.ownsRow w.heap.size 40 3 v ks.length (kcells ks) ∧ Chg No w wr ∧ Hid ((ks ++ (M.map Prod.fst).filter q).Perm ((L.map Prod.fst).filter q))) (fun _ wr => wr.rangeLeft m r)
  case atStart => exact ⟨L, [], hit, World.ownsRow_nil _ _ _ _, hch, by show ([] ++ _ : List Key).Perm _; exact List.Perm.refl _⟩
  case round =>
    obtain ⟨M, ks, hit, hown, hch, hperm⟩ := hrel
    go_wp2_with (at_next; refine st_next hit Key.inj rfl rfl rfl ?_ ?_; intro hM; refine Hid.out ?_; rotate_left; rintro pp w2 hp hit2 hch2 hsz2 hen; refine Hid.out ?_; rotate_left)
    · refine hid ?_
      have hp1 : ks.Perm ((L.map Prod.fst).filter q) := by have := hperm.out; rw [hM] at this; simpa using this
      have hlen := hp1.length_eq
      have hle : ks.length ≤ L.length := by rw [hlen]; exact Nat.le_trans (List.length_filter_le _ _) (by simp)
      have HP := hid hp1
      have HL := hid hlen
      have hsz : ks.length < 4611686018427387904 := by omega
      clear hM hperm hp1 hlen hq hlim
      go_wp2_with fail
      refine (sort_keys hown rfl hsz).mono ?_
      rintro e w3 ⟨rfl, hown3, hch3⟩
      have hch4 : Chg No w w3 := hch.trans' hch3 (fun j hj e => by have := (hown.lt j e).1; omega)
      have HX : Hid (w3.ownsRow w.heap.size 40 3 u5 ((L.map Prod.fst).filter q).length (kcells (ksort ((L.map Prod.fst).filter q)))) := by rw [← HL.out, ← ksort_perm HP.out]; exact hown3
      clear hown3 hch3 hown
      go_wp2_with fail
      go_ret
      exact ⟨u5, rfl, HX.out, hch4⟩
    · refine hid ?_
      obtain ⟨⟨k1, k2, k3⟩, c⟩ := pp
      have hch3 := hch.trans' (hch2 (fun j => j = r) rfl) (fun j hj e => by omega)
      have HZ := hid hsz2
      simp only [Key.val] at hen ⊢
      obtain ⟨b, hb⟩ : ∃ b, q ⟨k1, k2, k3⟩ = b := ⟨_, rfl⟩
      have hq' := fun W h => hq ⟨k1, k2, k3⟩ W h
      simp only [Key.val, hb] at hq'
      have HQ := hid hq'
      have HBq := hid hb
      clear hq hq' HC hsz2 hb
      go_wp2_with fail
      have k0 := Blk.new w2 #[.int .i64 k1, .int .i64 k2, .int .i64 k3] 40
      have hc4 := hch3.alloc (.cells #[.int .i64 k1, .int .i64 k2, .int .i64 k3] 40)
      refine (HQ.out _ hc4).mono ?_
      rintro e w3 ⟨rfl, c4⟩
      have k3' := (k0.chg c4 (fun e => e)).cell
      have hit3 := (hit2.chg ((Chg.refl No w2).alloc (.cells #[.int .i64 k1, .int .i64 k2, .int .i64 k3] 40)) (fun e => e) (fun e => e)).chg c4 (fun e => e) (fun e => e)
      have hch5 := hc4.trans' c4 (fun _ _ e => e.elim)
      have hown3 : w3.ownsRow w.heap.size 40 3 u5 ks.length (kcells ks) := by
        have h1 : w2.ownsRow w.heap.size 40 3 u5 ks.length (kcells ks) := ownsRow_chg hown (hch2 (fun j => j = r) rfl) (fun k hk e => by
          obtain ⟨_, _, _, _, hr'⟩ := hit.iter
          exact owns_ne_obj hown hr' (fun _ _ _ e => by cases e) k hk e)
        exact ownsRow_chg (ownsRow_chg h1 ((Chg.refl No w2).alloc _) (fun _ _ e => e)) c4 (fun _ _ e => e)
      have hz : w.heap.size ≤ w3.heap.size := hch5.size
      have HIT := hid hit3
      have HIT0 := hid hit
      have HOWN := hid hown3
      clear hit hit2 hit3 hown hch2 hown3 c4 k0 hc4
      cases b with
      | false =>
        go_wp2_with fail
        refine ⟨⟨_, ks, HIT.out, HOWN.out, hch5, ?_⟩, ?_⟩
        · exact keys_step_no HIT0.out hp HBq.out hperm.out
        · rw [HIT.out.left, HIT0.out.left]
          have := del_length (HIT0.out.nodupM) hp
          dsimp only at this
          omega
      | true =>
        have hown4 := ownsRow_chg HOWN.out ((Chg.refl No w3).alloc (.cells #[.int .i64 k1, .int .i64 k2, .int .i64 k3] 40)) (fun _ _ e => e)
        have hb4 : w.heap.size ≤ (w3.alloc (.cells #[.int .i64 k1, .int .i64 k2, .int .i64 k3] 40)).heap.size := by simp; omega
        have hlen : ks.length + 1 ≤ L.length := keys_len HIT0.out hp HBq.out hperm.out
        have hrd := Rd.new w3 [.int .i64 k1, .int .i64 k2, .int .i64 k3] 40
        have HLM := hid hlen
        have HL2 : Hid ((ks.length + 1) * 24 ≤ 140737488355328) := by show _ ≤ _; omega
        have HB4 := hid hb4
        have HOWN4 := hid hown4
        clear hlim hlen hb4 hown4
        go_wp2_with (at_builtin; refine st_append Try.E64 rfl rfl HOWN4.out rfl hrd rfl rfl (by simp [Value.oneCell']) HL2.out HB4.out ?_; intro v' w4 hown5 hgrow hnil; refine Hid.out ?_)
        refine hid ?_
        have HIT4 : Hid (IsIter Try.prog 40 Key.val ve w4 m r L (del M ⟨k1, k2, k3⟩)) := by
          have h1 := HIT.out.chg ((Chg.refl No w3).alloc (.cells #[.int .i64 k1, .int .i64 k2, .int .i64 k3] 40)) (fun e => e) (fun e => e)
          obtain ⟨_, _, hm'⟩ := h1.map.obj
          obtain ⟨_, _, _, _, hr'⟩ := h1.iter
          exact h1.chg (Chg.ofGrown hgrow) (fun e => owns_ne_obj HOWN4.out hm' (fun _ _ _ e => by cases e) _ e rfl) (fun e => owns_ne_obj HOWN4.out hr' (fun _ _ _ e => by cases e) _ e rfl)
        have hch6 : Chg No w w4 := (hch5.alloc _).grown hgrow (fun k hk hlt => by have := (HOWN4.out.lt k hk).1; omega)
        have HX := hid hown5
        have hlen5 : Hid ((ks ++ [(⟨k1, k2, k3⟩ : Key)]).length = ks.length + 1) := by show _ = _; simp
        have hce : Hid (kcells (ks ++ [(⟨k1, k2, k3⟩ : Key)]) = kcells ks ++ [Value.int IntKind.i64 k1, Value.int IntKind.i64 k2, Value.int IntKind.i64 k3]) := by show _ = _; simp [kcells, Key.cs]
        clear hown5 hgrow hnil hrd
        go_wp2_with fail
        refine ⟨⟨_, ks ++ [⟨k1, k2, k3⟩], HIT4.out, ?_, hch6, ?_⟩, ?_⟩
        · rw [hlen5.out, hce.out]; exact HX.out
        · exact keys_step_yes HIT0.out hp HBq.out hperm.out
        · rw [HIT4.out.left, HIT0.out.left]
          have := del_length (HIT0.out.nodupM) hp
          dsimp only at this
          omega
end Go.Proofs.Ytfpmgcpdjlkomaa
