/- 'LogFull' answers true, for every number. -/
import Derived.Test.YtfpmgcpdjlkomaaL19
import Derived.Test.YtfpmgcpdjlkomaaL12
namespace Go.Proofs.Ytfpmgcpdjlkomaa
open Go.RowKit Go.Px Go.Proofs Go.Shelf Go.ChangeShapes Go.WideShapes Go.ChangeAt
set_option maxHeartbeats 400000
set_option maxRecDepth 100000

/-- The key of the i-th command that LogFull adds. -/
def fkey (i : Nat) : Key := ⟨(i : Int) / 8, 0, i⟩
def fcmd (i : Nat) : Cmd := ⟨⟨(i : Int) / 8, 0, i, 0, none, 0, 0, 0, 0, 0, 0, 0, 0, 0⟩, []⟩

theorem fkey_new {N : Nat} {L : List (Key × Cmd)} (h : L.map Prod.fst = (List.range N).map fkey) : hask L (fkey N) = false := by
  cases hh : hask L (fkey N) with
  | false => rfl
  | true =>
    rw [hask_iff, h] at hh
    obtain ⟨j, hj, e⟩ := List.mem_map.1 hh
    simp only [fkey, Key.mk.injEq] at e
    simp at hj
    omega

theorem fkey_has {N i : Nat} {L : List (Key × Cmd)} (h : L.map Prod.fst = (List.range N).map fkey) (hi : i < N) : hask L (fkey i) = true := by
  rw [hask_iff, h]
  exact List.mem_map.2 ⟨i, by simpa using hi, rfl⟩

theorem fkey_late {r : Nat} {L : List (Key × Cmd)} (h : L.map Prod.fst = (List.range (8 + r)).map fkey) : (L.filter (fun x => decide ((1 : Int) ≤ x.1.t))).length = r := by
  have h1 : (L.filter (fun x => decide ((1 : Int) ≤ x.1.t))).length = ((L.map Prod.fst).filter (fun k : Key => decide ((1 : Int) ≤ k.t))).length := by
    rw [List.filter_map, List.length_map]
    rfl
  rw [h1, h, List.filter_map, List.length_map, List.range_add, List.filter_append]
  have h2 : (List.range 8).filter ((fun k : Key => decide ((1 : Int) ≤ k.t)) ∘ fkey) = [] := by decide
  have h3 : ((List.range r).map (8 + ·)).filter ((fun k : Key => decide ((1 : Int) ≤ k.t)) ∘ fkey) = (List.range r).map (8 + ·) := List.filter_eq_self.2 (fun x hx => by
    obtain ⟨j, _, rfl⟩ := List.mem_map.1 hx
    simp only [Function.comp, fkey]
    apply decide_eq_true
    omega)
  rw [h2, h3]
  simp

theorem fkey_wf {i : Nat} (h : i ≤ 4097) : (fkey i).wf := by
  refine ⟨Go.WalkArith.wf_i64 ?_, Go.WalkArith.wf_i64 ?_, Go.WalkArith.wf_i64 ?_⟩ <;> simp only [fkey] <;> omega

set_option maxHeartbeats 4000000 in
theorem full_any (n : Nat) (hn : n < 65536) (w : World) : Calls Try.prog 5 #[.int .u16 n] w fun e w' => e = .returned (.bool true) ∧ Chg No w w' := by
  go_enter Try.func5, Try.ntmps5
  go_wp2_with fail
  refine (new_any 0 _).mono ?_
  rintro e w1 ⟨rfl, hlog, hch⟩
  obtain ⟨p, hp⟩ : ∃ p, w.heap.size + 1 = p := ⟨_, rfl⟩
  obtain ⟨m, hm⟩ : ∃ m, w.heap.size = m := ⟨_, rfl⟩
  rw [hp, hm] at hlog
  rw [hp]
  obtain ⟨k, hk⟩ : ∃ k : Nat, k = 4094 + n % 4 := ⟨_, rfl⟩
  have HPM := hid (And.intro hp hm)
  clear hp hm
  go_wp2_with fail
  have hk' : (4094 + (n : Int) % 4) = (k : Int) := by omega
  rw [hk']
  have hkb : 4094 ≤ k ∧ k ≤ 4097 := by omega
  have HKB := hid hkb
  clear hk hk' hkb
  go_loopw [5] (fun i wr => ∃ (j : Nat) (L : List (Key × Cmd)), i = .int .i64 j ∧ j ≤ k ∧ LogIs wr p m m 0 L ∧ Hid (L.map Prod.fst = (List.range (min j 4096)).map fkey) ∧ Chg No w wr) (fun i _ => k - (intOf i).toNat)
  case atStart => exact ⟨0, [], rfl, by omega, hlog, rfl, hch⟩
  case round =>
    obtain ⟨j, L, rfl, hj, hlog, hL, hch⟩ := hrel
    have hlen : L.length = min j 4096 := by have := congrArg List.length hL.out; simpa using this
    by_cases hlt : j < k
    · have hmw : m ≤ wr.heap.size := Nat.le_of_lt hlog.map.lt
      have hmW : w.heap.size = m := HPM.out.2
      by_cases h96 : j < 4096
      · have hjb : j ≤ 4097 := by omega
        have hadd := add_new hlog (fcmd j) (by simp only [fcmd]; omega) (fkey_wf hjb) (by have := fkey_new (N := j) (L := L) (by rw [hL.out, Nat.min_eq_left (by omega)]); exact this) (by omega) hmw (nil_sl _) (by simp [fcmd])
        have HADD := hid hadd
        have HCH := hid hch
        have HLEN := hid hlen
        have HMW := hid hmW
        clear hadd hlog hch hlen hmw hmW
        go_wp2_with fail
        have hq : Int.tdiv (j : Int) 8 = (j : Int) / 8 := Int.tdiv_eq_ediv_of_nonneg (by omega)
        first | rw [hq] | skip
        change Calls Try.prog 9 #[.pointer (some ⟨p, 0, none⟩), (fcmd j).val] wr _
        refine HADD.out.mono ?_
        rintro e w2 ⟨rfl, hch2, c', _, _, hlog2⟩
        have hL2 : (put L (fcmd j).key c').map Prod.fst = (List.range (min (j + 1) 4096)).map fkey := by
          rw [keys_put, show hask L (fcmd j).key = false from fkey_new (N := j) (L := L) (by rw [hL.out, Nat.min_eq_left (by omega)]), hL.out, Nat.min_eq_left (by omega), Nat.min_eq_left (by omega), List.range_succ]
          simp [fkey, fcmd, Cmd.key]
        have HL2 := hid hL2
        have HLOG2 := hid hlog2
        have HCH2 := hid (HCH.out.trans' hch2 (T := fun j => j = m) (fun j hj e => by have := HMW.out; omega))
        clear HADD hch2 hlog2 hL2 HLEN HCH
        have hlt2 : (j : Int) < 4096 := by omega
        go_wp2_with fail
        exact ⟨⟨j + 1, _, by go_num, by omega, HLOG2.out, HL2, HCH2.out⟩, by simp [intOf]; omega⟩
      · have hjb : j ≤ 4097 := by have := HKB.out; omega
        have hj96 : j = 4096 := by have := HKB.out; omega
        have hadd := add_full hlog (fcmd j) (by simp only [fcmd]; omega) (fkey_wf hjb) (by have := fkey_new (N := j) (L := L) (by rw [hL.out, Nat.min_eq_right (by omega), hj96]); exact this) (by omega)
        have HADD := hid hadd
        have HCH := hid hch
        have HLOG := hid hlog
        have HLEN := hid hlen
        have HJ := hid hj96
        have H96 := hid h96
        clear hadd hlog hch hlen hmw hmW hj96 h96
        go_wp2_with fail
        have hq : Int.tdiv (j : Int) 8 = (j : Int) / 8 := Int.tdiv_eq_ediv_of_nonneg (by omega)
        first | rw [hq] | skip
        change Calls Try.prog 9 #[.pointer (some ⟨p, 0, none⟩), (fcmd j).val] wr _
        refine HADD.out.mono ?_
        rintro e w2 ⟨rfl, hch2⟩
        have HLOG2 := hid (HLOG.out.chgNo hch2)
        have HCH2 := hid (HCH.out.trans hch2)
        have HL2 : Hid (L.map Prod.fst = (List.range (min (j + 1) 4096)).map fkey) := by
          have := hL.out
          rw [HJ.out] at this ⊢
          exact this
        clear HADD hch2 HLEN HCH HLOG
        have hlt2 : ¬ (j : Int) < 4096 := by have := H96.out; omega
        have hge2 : (4096 : Int) ≤ (j : Int) := by omega
        go_wp2_with fail
        exact ⟨⟨j + 1, _, by go_num, by omega, HLOG2.out, HL2, HCH2.out⟩, by simp [intOf]; omega⟩
    · have hjk : j = k := by omega
      subst hjk
      have hhas : hask L (fcmd 0).key = true := fkey_has (N := min j 4096) (i := 0) hL.out (by have := HKB.out; omega)
      have HADD := hid (add_same hlog (fcmd 0) (by simp [fcmd]) (fkey_wf (by omega)) hhas)
      have HLOG := hid hlog
      have HCH := hid hch
      have HLEN := hid hlen
      clear hlog hch hlen hhas
      go_wp2_with fail
      change Calls Try.prog 9 #[.pointer (some ⟨p, 0, none⟩), (fcmd 0).val] wr _
      refine HADD.out.mono ?_
      rintro e w2 ⟨rfl, hch2⟩
      have HLOG2 := hid (HLOG.out.chgNo hch2)
      have HCH2 := hid (HCH.out.trans hch2)
      clear HADD hch2 HLOG HCH
      go_wp2_with fail
      refine (drop_any HLOG2.out 1 (by have := HLEN.out; have := HKB.out; omega)).mono ?_
      rintro e w3 ⟨_, h3⟩
      obtain ⟨rfl, hlog3, hch3⟩ := h3 (by omega)
      have hr : ((L.length : Int) - ((L.filter (fun x => decide ((1 : Int) ≤ x.1.t))).length : Int)) = 8 := by
        have h8 : min j 4096 = 8 + (min j 4096 - 8) := by have := HKB.out; omega
        have hl := hL.out
        rw [h8] at hl
        rw [fkey_late hl, HLEN.out]
        have := HKB.out
        omega
      rw [hr]
      have HLOG3 := hid hlog3
      have HCH3 := hid (HCH2.out.trans' hch3 (T := fun j => j = p ∨ j = m) (fun j hj e => by have := HPM.out; omega))
      clear HLOG2 HCH2 hlog3 hch3 hr h3
      go_wp2_with fail
      refine (first_any HLOG3.out).mono ?_
      rintro e w4 ⟨rfl, rfl⟩
      go_wp2_with fail
      refine (awake_any _).mono ?_
      rintro e w5 ⟨rfl, hch5⟩
      go_wp2_with fail
      go_ret
      exact ⟨rfl, HCH3.out.trans hch5⟩
end Go.Proofs.Ytfpmgcpdjlkomaa
