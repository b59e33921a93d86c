/-
  The walk of 'heavy': a script that is not heavy has at most 100 steps.
-/
import Derived.Test.YthcjmghdmcapeaaRputAll
namespace Go.Proofs.Ythcjmghdmcapeaa
open Go.RowKit Go.Maps Go.ChangeShapes

/-- a step of the script -/
structure StepV where
  seq : Nat
  data : ByteArray
  fin : Bool
  reads : Bool
  n : Int

/-- the script in memory: five cells a step -/
def ScriptAt (w : World) (sb so len : Nat) (st : Nat → StepV) : Prop :=
  ∀ k, k < len → (st k).seq < M32 ∧ w.cell? ⟨sb, so + k * 5, none⟩ = some (.int .u32 ((st k).seq : Int)) ∧ w.cell? ⟨sb, so + k * 5 + 1, none⟩ = some (.string (st k).data) ∧ w.cell? ⟨sb, so + k * 5 + 2, none⟩ = some (.bool (st k).fin) ∧
    w.cell? ⟨sb, so + k * 5 + 3, none⟩ = some (.bool (st k).reads) ∧ w.cell? ⟨sb, so + k * 5 + 4, none⟩ = some (.int .i64 (st k).n)

def HeavyPost (len : Nat) (w : World) (e : Ending) (w' : World) : Prop := (∃ b, e = .returned (.bool b) ∧ (b = false → len ≤ 100)) ∧ w = w'

set_option maxRecDepth 100000 in
theorem heavy_any (a : Option Addr) (len cap : Nat) (st : Nat → StepV) (w : World) (ha : len = 0 ∨ ∃ sb so, a = some ⟨sb, so, none⟩ ∧ ScriptAt w sb so len st) :
    Calls Try.prog 4 #[.slice a len cap] w (HeavyPost len w) := by
  go_enter Try.func4, Try.ntmps4
  go_wp2_with fail
  go_loop [3, 4] (fun n i => ∃ k : Nat, k ≤ len ∧ k ≤ 300 ∧ i = .int .i64 k ∧ ∃ x : Int, n = .int .i64 x) (fun _ i => 300 - (intOf i).toNat)
  case atStart => exact ⟨0, Nat.zero_le _, by omega, rfl, 0, rfl⟩
  case round =>
    obtain ⟨k, hk1, hk2, rfl, x, rfl⟩ := hrel
    by_cases hkl : k < len
    · by_cases hk3 : k < 300
      · rcases ha with h0 | ⟨sb, so, rfl, hsc⟩
        · omega
        · obtain ⟨_, _, h1, _⟩ := hsc k hkl
          clear hsc
          go_wp2_with fail
          go_round
          case rel => exact ⟨k + 1, by omega, by omega, by go_num, _, rfl⟩
          case measure => simp [intOf]; omega
      · clear ha
        have hlen : 100 < len := by omega
        go_wp2_with fail
        all_goals go_ret
        all_goals exact ⟨⟨_, rfl, fun h => by simp at h⟩, rfl⟩
    · have hk4 : k = len := by omega
      subst hk4
      clear ha
      by_cases hl : 100 < k
      · have t1 : decide ((100 : Int) < (k : Int)) = true := decide_eq_true (by omega)
        have t2 : decide (100 < k) = true := decide_eq_true hl
        go_wp2_with fail
        go_ret
        exact ⟨⟨_, rfl, fun h => by simp at h⟩, rfl⟩
      · have t1 : decide ((100 : Int) < (k : Int)) = false := decide_eq_false (by omega)
        have t2 : decide (100 < k) = false := decide_eq_false hl
        go_wp2_with fail
        go_ret
        exact ⟨⟨_, rfl, fun _ => by omega⟩, rfl⟩

end Go.Proofs.Ythcjmghdmcapeaa
