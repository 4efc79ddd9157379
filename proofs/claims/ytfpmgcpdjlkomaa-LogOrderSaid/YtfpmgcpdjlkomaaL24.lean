/- 'LogOrder' answers true, for every list of commands within the reach. -/
import Derived.Test.YtfpmgcpdjlkomaaL23
import Derived.Test.YtfpmgcpdjlkomaaL15
import Derived.Test.YtfpmgcpdjlkomaaL12
namespace Go.Proofs.Ytfpmgcpdjlkomaa
open Go.RowKit Go.Px Go.Proofs Go.Shelf
set_option maxHeartbeats 400000
set_option maxRecDepth 100000

theorem Try.u38 : Try.prog.underlying 38 = some (.map 40 4) := by kernel_rfl
theorem zero4 (w : World) : (zeroValue 4).run Try.prog w = .ok (.bool false) w := by kernel_rfl

/-- Commands that came in: they lie in a row from ⟨b, off⟩ on; their units read as ints. -/
structure ArgCmds (w : World) (v : Value) (cs : List Cmd) : Prop where
  form : ∃ a cap, v = .slice a cs.length cap ∧ (cs ≠ [] → ∃ b off, a = some ⟨b, off, none⟩ ∧ ∀ k c, cs[k]? = some c → ∀ j u, c.row[j]? = some u → w.cell? ⟨b, off + k * 12 + j, none⟩ = some u)
  ok : ∀ c ∈ cs, c.ok w
  wf : ∀ c ∈ cs, c.key.wf
  lim : ∀ c ∈ cs, c.us.length * 8 ≤ 140737488355328

theorem ArgCmds.chgNo {w w' : World} {v : Value} {cs : List Cmd} (h : ArgCmds w v cs) (hc : Chg No w w') : ArgCmds w' v cs := by
  obtain ⟨⟨a, cap, e, h1⟩, h2, h3, h4⟩ := h
  refine ⟨⟨a, cap, e, fun hn => ?_⟩, fun c hm => (h2 c hm).chg hc, h3, h4⟩
  obtain ⟨b, off, e', h5⟩ := h1 hn
  exact ⟨b, off, e', fun k c hk j u hu => hc.cell (h5 k c hk j u hu) (fun e => e)⟩

/-- The first of each key. -/
def addOnce (os : List Cmd) (c : Cmd) : List Cmd := if hask (os.map (fun c => (c.key, true))) c.key then os else os ++ [c]
def onceOf (cs : List Cmd) : List Cmd := cs.foldl addOnce []

theorem onceOf_snoc (cs : List Cmd) (c : Cmd) : onceOf (cs ++ [c]) = addOnce (onceOf cs) c := by simp [onceOf]

theorem onceOf_take {cs : List Cmd} {k : Nat} {c : Cmd} (h : cs[k]? = some c) : onceOf (cs.take (k + 1)) = addOnce (onceOf (cs.take k)) c := by
  rw [List.take_add_one, h]
  exact onceOf_snoc _ _

theorem fold_sub : ∀ {cs acc : List Cmd} {c : Cmd}, c ∈ cs.foldl addOnce acc → c ∈ acc ∨ c ∈ cs
  | [], acc, c, h => .inl h
  | a :: cs, acc, c, h => by
    rw [List.foldl_cons] at h
    rcases fold_sub h with h | h
    · unfold addOnce at h
      split at h
      · exact .inl h
      · rcases List.mem_append.1 h with h | h
        · exact .inl h
        · simp at h; subst h; exact .inr (by simp)
    · exact .inr (by simp [h])

theorem onceOf_sub {cs : List Cmd} {c : Cmd} (h : c ∈ onceOf cs) : c ∈ cs := by
  rcases fold_sub h with h | h
  · simp at h
  · exact h

theorem fold_len : ∀ (cs acc : List Cmd), (cs.foldl addOnce acc).length ≤ acc.length + cs.length
  | [], acc => by simp
  | a :: cs, acc => by
    rw [List.foldl_cons]
    have := fold_len cs (addOnce acc a)
    have h2 : (addOnce acc a).length ≤ acc.length + 1 := by unfold addOnce; split <;> simp
    simp only [List.length_cons]
    omega

theorem onceOf_len (cs : List Cmd) : (onceOf cs).length ≤ cs.length := by
  have := fold_len cs []
  simpa [onceOf] using this

theorem addOnce_nodup {os : List Cmd} {a : Cmd} (h : (os.map Cmd.key).Nodup) : ((addOnce os a).map Cmd.key).Nodup := by
  unfold addOnce
  split
  · exact h
  · rename_i hh
    rw [List.map_append]
    refine List.nodup_append.2 ⟨h, by simp, ?_⟩
    intro x hx y hy e
    simp at hy
    subst hy
    subst e
    refine hh ((hask_iff _ _).2 ?_)
    rw [List.map_map]
    exact hx

theorem fold_nodup : ∀ {cs acc : List Cmd}, (acc.map Cmd.key).Nodup → ((cs.foldl addOnce acc).map Cmd.key).Nodup
  | [], _, h => h
  | _ :: cs, _, h => fold_nodup (cs := cs) (addOnce_nodup h)

theorem onceOf_nodup (cs : List Cmd) : ((onceOf cs).map Cmd.key).Nodup := fold_nodup (by simp)
end Go.Proofs.Ytfpmgcpdjlkomaa
