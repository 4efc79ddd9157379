/- What comes in as a command, read: a command whose units read as ints; the frame of a call that keeps what lay there. -/
import Derived.Test.YtfpmgcpdjlkomaaL11
import Derived.ProofKit
import Derived.SizedLaws
namespace Go.Proofs.Ytfpmgcpdjlkomaa
open Go.RowKit Go.Px Go.Proofs Go.Shelf Go.ChangeShapes Go.WideShapes Go.ChangeAt
set_option maxHeartbeats 400000
set_option maxRecDepth 100000

theorem Try.own : ownKnob Try.prog.godebug = none := by kernel_rfl
theorem Try.cells28 : Try.prog.cellsOf 28 = 12 := by kernel_rfl
theorem Try.cells3 : Try.prog.cellsOf 3 = 1 := by kernel_rfl
theorem Try.cells22 : Try.prog.cellsOf 22 = 1 := by kernel_rfl
theorem Try.cells24 : Try.prog.cellsOf 24 = 2 := by kernel_rfl
theorem Try.cells26 : Try.prog.cellsOf 26 = 2 := by kernel_rfl
theorem Try.cells31 : Try.prog.cellsOf 31 = 1 := by kernel_rfl
theorem Try.bytes3 : Try.prog.bytesOf 3 = 8 := by kernel_rfl

theorem list12 {α : Type} {l : List α} (h : l.length = 12) : ∃ a b c d e f g i j k m n, l = [a, b, c, d, e, f, g, i, j, k, m, n] := by
  match l, h with
  | [a, b, c, d, e, f, g, i, j, k, m, n], _ => exact ⟨a, b, c, d, e, f, g, i, j, k, m, n, rfl⟩

theorem list10 {α : Type} {l : List α} (h : l.length = 10) : ∃ a b c d e f g i j k, l = [a, b, c, d, e, f, g, i, j, k] := by
  match l, h with
  | [a, b, c, d, e, f, g, i, j, k], _ => exact ⟨a, b, c, d, e, f, g, i, j, k, rfl⟩

section
variable {H : Type} {enc : TypeId × Value → H} {W : World}

theorem open_cmd {fuel : Nat} {cs : List Value} {x : DataW H × List MemPlace} (h : DataW.trod enc Try.prog W 0 (fun _ => true) true fuel 28 cs = some x) :
    ∃ c : Cmd, cs = c.v.cells.toList ∧ c.ok W ∧ c.key.wf ∧ ((∀ n ∈ x.1.weights Try.prog 28, n ≤ reachBytes) → c.us.length * 8 ≤ reachBytes) := by
  obtain ⟨xs, n, _, rfl, hl, hlen, hf⟩ := DataW.trod_struct Try.underlying28 h
  rw [Try.cells28] at hl
  obtain ⟨a, b, c, d, e, f, g, i, j, k, m, o, rfl⟩ := list12 hl
  obtain ⟨xa, xb, xc, xd, xe, xf, xg, xi, xj, xk, rfl⟩ := list10 (l := xs) hlen
  have h0 : DataW.trod enc Try.prog W 0 (fun _ => true) true n 3 [a] = some xa := by simpa [Try.cells3, Try.cells22, Try.cells24, Try.cells26] using hf 0 _ rfl
  have h1 : DataW.trod enc Try.prog W 0 (fun _ => true) true n 3 [b] = some xb := by simpa [Try.cells3, Try.cells22, Try.cells24, Try.cells26] using hf 1 _ rfl
  have h2 : DataW.trod enc Try.prog W 0 (fun _ => true) true n 3 [c] = some xc := by simpa [Try.cells3, Try.cells22, Try.cells24, Try.cells26] using hf 2 _ rfl
  have h3 : DataW.trod enc Try.prog W 0 (fun _ => true) true n 3 [d] = some xd := by simpa [Try.cells3, Try.cells22, Try.cells24, Try.cells26] using hf 3 _ rfl
  have h4 : DataW.trod enc Try.prog W 0 (fun _ => true) true n 22 [e] = some xe := by simpa [Try.cells3, Try.cells22, Try.cells24, Try.cells26] using hf 4 _ rfl
  have h5 : DataW.trod enc Try.prog W 0 (fun _ => true) true n 24 [f, g] = some xf := by simpa [Try.cells3, Try.cells22, Try.cells24, Try.cells26] using hf 5 _ rfl
  have h6 : DataW.trod enc Try.prog W 0 (fun _ => true) true n 3 [i] = some xg := by simpa [Try.cells3, Try.cells22, Try.cells24, Try.cells26] using hf 6 _ rfl
  have h7 : DataW.trod enc Try.prog W 0 (fun _ => true) true n 3 [j] = some xi := by simpa [Try.cells3, Try.cells22, Try.cells24, Try.cells26] using hf 7 _ rfl
  have h8 : DataW.trod enc Try.prog W 0 (fun _ => true) true n 3 [k] = some xj := by simpa [Try.cells3, Try.cells22, Try.cells24, Try.cells26] using hf 8 _ rfl
  have h9 : DataW.trod enc Try.prog W 0 (fun _ => true) true n 26 [m, o] = some xk := by simpa [Try.cells3, Try.cells22, Try.cells24, Try.cells26] using hf 9 _ rfl
  clear hf hlen hl h
  obtain ⟨t, e0, rfl, w0⟩ := DataW.trod_int Try.underlying3 h0
  obtain ⟨pl, e1, rfl, w1⟩ := DataW.trod_int Try.underlying3 h1
  obtain ⟨s, e2, rfl, w2⟩ := DataW.trod_int Try.underlying3 h2
  obtain ⟨kd, e3, rfl, w3⟩ := DataW.trod_int Try.underlying3 h3
  obtain ⟨ww, e6, rfl, w6⟩ := DataW.trod_int Try.underlying3 h6
  obtain ⟨hh, e7, rfl, w7⟩ := DataW.trod_int Try.underlying3 h7
  obtain ⟨id, e8, rfl, w8⟩ := DataW.trod_int Try.underlying3 h8
  simp only [List.cons.injEq, and_true] at e0 e1 e2 e3 e6 e7 e8
  subst e0 e1 e2 e3 e6 e7 e8
  obtain ⟨ya, yb, n5, rfl, _, ha, hb⟩ := trod_struct2 Try.underlying24 h5
  simp only [Try.cells3, List.drop_zero, List.drop_succ_cons, List.take_succ_cons, List.take_zero] at ha hb
  obtain ⟨x, e5, rfl, w5⟩ := DataW.trod_int Try.underlying3 ha
  obtain ⟨y, e5', rfl, w5'⟩ := DataW.trod_int Try.underlying3 hb
  obtain ⟨yc, yd, n9, rfl, _, hc, hd⟩ := trod_struct2 Try.underlying26 h9
  simp only [Try.cells3, List.drop_zero, List.drop_succ_cons, List.take_succ_cons, List.take_zero] at hc hd
  obtain ⟨cl, e9, rfl, w9⟩ := DataW.trod_int Try.underlying3 hc
  obtain ⟨sz, e9', rfl, w9'⟩ := DataW.trod_int Try.underlying3 hd
  simp only [List.cons.injEq, and_true] at e5 e5' e9 e9'
  subst e5 e5' e9 e9'
  clear h0 h1 h2 h3 h5 h6 h7 h8 h9 ha hb hc hd
  rcases open_ints Try.underlying22 Try.underlying3 Try.cells3 h4 with ⟨hcs, hx⟩ | ⟨ad, len, cap, zs, hcs, _, hl, hm, hz, hx, hcell, hwz⟩
  · simp only [List.cons.injEq, and_true] at hcs
    subst hcs
    exact ⟨⟨⟨t, pl, s, kd, none, 0, 0, x, y, ww, hh, id, cl, sz⟩, []⟩, rfl, ⟨none, 0, rfl, Nat.le_refl _, Nat.zero_le _, fun _ => ⟨rfl, rfl, rfl⟩, fun _ e => by cases e⟩, ⟨w0, w1, w2⟩, fun _ => by simp⟩
  · simp only [List.cons.injEq, and_true] at hcs
    subst hcs
    simp only [if_true] at hz
    have htl : (zs.take len).length = len := by rw [List.length_take]; omega
    refine ⟨⟨⟨t, pl, s, kd, some ad, len, cap, x, y, ww, hh, id, cl, sz⟩, zs.take len⟩, rfl, ⟨some ad, cap, ?_, by simp only [htl]; exact hl, hm, (fun e => by cases e), ?_⟩, ⟨w0, w1, w2⟩, ?_⟩
    · simp only [CmdV.units, htl]
    · intro ad' e
      cases e
      intro j u hu
      simp only [Cmd.cells, List.getElem?_map, Option.map_eq_some_iff] at hu
      obtain ⟨z, hz1, rfl⟩ := hu
      have hj : j < len := by have := (List.getElem?_eq_some_iff.1 hz1).1; omega
      rw [hcell j (by omega)]
      rw [List.getElem?_take, if_pos hj] at hz1
      simp [List.getD, hz1]
    · intro hw
      have : ((lits (H := H) .i64 (zs.take len)).length + (lits (H := H) .i64 (zs.drop len)).length) * Try.prog.bytesOf 3 ≤ reachBytes := hw _ (by
        subst hx
        simp [DataW.weights, DataW.weightsEach, Try.underlying28, Try.underlying22])
      rw [Try.bytes3] at this
      simp only [lits, List.length_map] at this
      simp only
      omega
end
end Go.Proofs.Ytfpmgcpdjlkomaa
