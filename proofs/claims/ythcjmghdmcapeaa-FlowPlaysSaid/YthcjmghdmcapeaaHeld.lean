/-
  Plain facts: a map from numbers to bytes that holds what the queue's data say is held.
-/
import Derived.Test.YthcjmghdmcapeaaModel
import Derived.Maps.OwnSet
namespace Go.Proofs.Ythcjmghdmcapeaa
open Go.Maps

abbrev Dm := DataW Unit
/-- a number as a key -/
def key (k : Nat) : Lit := .int .u32 (k : Int)
theorem key_lit (k : Nat) : WideAt.IsKeyLit (key k) := trivial
def u8d (v : UInt8) : Dm := .lit (.int .u8 (v.toNat : Int))
def z8 : Dm := .lit (.int .u8 0)

theorem key_ne {k k' : Nat} (h : k' ≠ k) : key k' ≠ key k := by
  unfold key
  intro e
  injection e with _ e
  exact h (by omega)

structure MapIs (D : Dm) (q : Q) : Prop where
  tidy : Tidy D
  has : ∀ k, k < M32 → Maps.has D (key k) = (q.got (q.pos k)).isSome
  val : ∀ k v, k < M32 → q.got (q.pos k) = some v → D.atKey (key k) z8 = u8d v
  size : Maps.size D = q.held

theorem count_set {l : List (Option UInt8)} {i : Nat} (d : UInt8) (hi : i < l.length) (hn : (l[i]?).getD none = none) :
    (l.set i (some d)).countP (fun o => o.isSome) = l.countP (fun o => o.isSome) + 1 := by
  induction l generalizing i with
  | nil => simp at hi
  | cons o r ih =>
    cases i with
    | zero =>
      have ho : o = none := by simpa using hn
      subst ho
      simp
    | succ i =>
      have := ih (i := i) (by simpa using hi) (by simpa using hn)
      simp only [List.set_cons_succ, List.countP_cons, this]
      omega

theorem mapis_put {D : Dm} {q : Q} (h : MapIs D q) {k : Nat} (hk : k < M32) (d : UInt8) (hl : q.pos k < q.h.length) (hn : q.got (q.pos k) = none) :
    MapIs (D.put (key k) (u8d d)) { q with h := q.h.set (q.pos k) (some d) } := by
  have hpos : ∀ j, Q.pos { q with h := q.h.set (q.pos k) (some d) } j = q.pos j := fun _ => rfl
  have hhas : Maps.has D (key k) = false := by rw [h.has k hk, hn]; rfl
  refine ⟨h.tidy.put (key_lit k) _, ?_, ?_, ?_⟩
  · intro j hj
    rw [hpos, got_set hl]
    by_cases e : j = k
    · subst e
      rw [if_pos rfl, has_put_same h.tidy.isMap (key_lit _)]; rfl
    · rw [if_neg (fun e2 => e (pos_inj hj hk e2)), has_put_other (key_ne e), h.has j hj]
  · intro j v hj hg
    rw [hpos, got_set hl] at hg
    by_cases e : j = k
    · subst e
      rw [if_pos rfl] at hg
      rw [atKey_put_same h.tidy.isMap (key_lit _)]
      rw [Option.some.inj hg]
    · rw [if_neg (fun e2 => e (pos_inj hj hk e2))] at hg
      rw [atKey_put_other (key_ne e)]
      exact h.val j v hj hg
  · rw [size_put h.tidy, hhas]
    simp only [Bool.false_eq_true, if_false]
    rw [h.size]
    exact (count_set d hl hn).symm

theorem mapis_pop {D : Dm} {q : Q} (h : MapIs D q) (hq : q.next < M32) (hlen : q.h.length < M32) {v : UInt8} (hh : q.h = some v :: q.h.tail) : MapIs (D.del (key q.next)) (q.pop 1) := by
  have h1 : 1 ≤ q.h.length := by rw [hh]; simp
  have hnext : (q.pop 1).next = (q.next + 1) % M32 := rfl
  have hg0 : q.got 0 = some v := by unfold Q.got; rw [hh]; rfl
  have hp0 : q.pos q.next = 0 := by unfold Q.pos M32 at *; omega
  have hpos : ∀ k, k < M32 → k ≠ q.next → q.pos k = (q.pop 1).pos k + 1 := by
    intro k hk hne
    unfold Q.pos
    rw [hnext]
    unfold M32 at *
    omega
  have hposn : (q.pop 1).pos q.next = M32 - 1 := by
    unfold Q.pos
    rw [hnext]
    unfold M32 at *
    omega
  have hout : q.got (M32 - 1 + 1) = none := by
    unfold Q.got
    rw [List.getElem?_eq_none (by unfold M32 at *; omega)]; rfl
  have hhas : Maps.has D (key q.next) = true := by rw [h.has _ hq, hp0, hg0]; rfl
  refine ⟨h.tidy.del _, ?_, ?_, ?_⟩
  · intro k hk
    rw [got_pop h1]
    by_cases e : k = q.next
    · subst e
      rw [has_del_same, hposn, hout]; rfl
    · rw [has_del_other (key_ne e), h.has k hk, hpos k hk e]
  · intro k u hk hg
    rw [got_pop h1] at hg
    by_cases e : k = q.next
    · subst e
      rw [hposn, hout] at hg; cases hg
    · rw [atKey_del_other (key_ne e)]
      exact h.val k u hk (by rw [hpos k hk e]; exact hg)
  · have hs := size_del (k := key q.next) h.tidy
    rw [hhas] at hs
    simp only [if_true] at hs
    rw [h.size] at hs
    have : (q.pop 1).held + 1 = q.held := by
      unfold Q.held Q.pop
      dsimp only
      rw [hh]
      simp
    omega

theorem mapis_new {next size : Nat} : MapIs (.map []) (Q.new next size) := by
  have hg : ∀ i, (Q.new next size).got i = none := by
    intro i
    unfold Q.got Q.new
    dsimp only
    rw [List.getElem?_replicate]
    split <;> rfl
  refine ⟨tidy_empty, ?_, ?_, ?_⟩
  · intro k _; rw [hg]; rfl
  · intro k v _ h; rw [hg] at h; cases h
  · show 0 = _
    unfold Q.held Q.new
    dsimp only
    rw [List.countP_replicate]; rfl

theorem held_le (q : Q) : q.held ≤ q.h.length := List.countP_le_length

end Go.Proofs.Ythcjmghdmcapeaa
