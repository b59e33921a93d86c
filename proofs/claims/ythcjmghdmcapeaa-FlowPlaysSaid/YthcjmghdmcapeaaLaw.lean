/-
  The walk of the law.
-/
import Derived.Test.YthcjmghdmcapeaaTwo
import Derived.Deep.RegionHeld3
namespace Go.Proofs.Ythcjmghdmcapeaa
open Go.RowKit Go.Maps Go.ChangeShapes

/-- a window that may not be -/
theorem law_no (a : Option Addr) (len cap : Nat) (st : Nat → StepV) (w : World) (ha : len = 0 ∨ ∃ sb so, a = some ⟨sb, so, none⟩ ∧ ScriptAt w sb so len st) (next x y z : Int) (n : Int) (hn : n < 1 ∨ 65536 < n) :
    Calls Try.prog 3 #[.int .u32 next, .int .i64 n, .slice a len cap, .int .u32 x, .int .u32 y, .int .u32 z] w (WorksPost w) := by
  have hmay : (decide (1 ≤ n) && decide (n ≤ 65536)) = false := by
    rcases hn with h | h
    · rw [decide_eq_false (by omega : ¬ 1 ≤ n)]; rfl
    · rw [decide_eq_false (by omega : ¬ n ≤ 65536)]; simp
  have HM := Lib.hid hmay
  have HN := Lib.hid hn
  have hg : decide (2048 < n) = false ∨ (decide (2048 < n) = true ∧ decide (n ≤ 65536) = false) := by
    rcases hn with h | h
    · exact .inl (decide_eq_false (by omega))
    · exact .inr ⟨decide_eq_true (by omega), decide_eq_false (by omega)⟩
  clear hmay hn
  rcases hg with g1 | ⟨g1, g2⟩
  all_goals
    go_enter Try.func3, Try.ntmps3
    go_wp2_with fail
    refine (heavy_any a len cap st w ha).mono ?_
    rintro e w1 ⟨⟨b, rfl, hb⟩, rfl⟩
    cases b with
    | true =>
      go_wp2_with fail
      refine (works_any _).mono ?_
      rintro e w2 ⟨rfl, f⟩
      go_wp2_with fail
      go_ret
      exact ⟨rfl, f⟩
    | false =>
      go_wp2_with fail
      refine (less_any x y _).mono ?_
      rintro e w2 ⟨rfl, rfl⟩
      go_wp2_with fail
      refine (rless_any x y _).mono ?_
      rintro e w2 ⟨rfl, rfl⟩
      go_wp2_with fail
      refine (in_any x y z _).mono ?_
      rintro e w2 ⟨rfl, rfl⟩
      go_wp2_with fail
      refine (rin_any x y z _).mono ?_
      rintro e w2 ⟨rfl, rfl⟩
      go_wp2_with fail
      refine (fnew_no n next _ HN.out).mono ?_
      rintro e w2 ⟨rfl, rfl⟩
      go_wp2_with fail
      refine (may_any n _).mono ?_
      rintro e w2 ⟨rfl, rfl⟩
      rw [HM.out]
      go_wp2_with fail
      refine (works_any _).mono ?_
      rintro e w2 ⟨rfl, f⟩
      go_wp2_with fail
      go_ret
      exact ⟨rfl, f⟩

/-- a window that may be, and is not played -/
theorem law_big (a : Option Addr) (len cap : Nat) (st : Nat → StepV) (w : World) (ha : len = 0 ∨ ∃ sb so, a = some ⟨sb, so, none⟩ ∧ ScriptAt w sb so len st) (next x y z : Int) (n : Int) (h1 : 2048 < n) (h2 : n ≤ 65536) :
    Calls Try.prog 3 #[.int .u32 next, .int .i64 n, .slice a len cap, .int .u32 x, .int .u32 y, .int .u32 z] w (WorksPost w) := by
  have g1 : decide (2048 < n) = true := decide_eq_true h1
  have g2 : decide (n ≤ 65536) = true := decide_eq_true h2
  go_enter Try.func3, Try.ntmps3
  go_wp2_with fail
  refine (heavy_any a len cap st w ha).mono ?_
  rintro e w1 ⟨⟨b, rfl, hb⟩, rfl⟩
  cases b with
  | true =>
    go_wp2_with fail
    refine (works_any _).mono ?_
    rintro e w2 ⟨rfl, f⟩
    go_wp2_with fail
    go_ret
    exact ⟨rfl, f⟩
  | false =>
    go_wp2_with fail
    refine (works_any _).mono ?_
    rintro e w2 ⟨rfl, f⟩
    go_wp2_with fail
    go_ret
    exact ⟨rfl, f⟩

end Go.Proofs.Ythcjmghdmcapeaa
