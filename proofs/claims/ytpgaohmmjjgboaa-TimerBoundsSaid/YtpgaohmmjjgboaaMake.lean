/-
  The walks of New, of the program and of the reference, and of the reference's Sample and Backoff.
-/
import Derived.Test.YtpgaohmmjjgboaaSample
import Derived.Deep.RegionWith
import Derived.Deep.RegionHeld3
namespace Go.Proofs.Ytpgaohmmjjgboaa
open Go.RowKit Ieee Fl

/-- a conf that may be -/
def May (L M : Int) : Prop := 1 ≤ L ∧ L ≤ M ∧ M ≤ 4294967296

theorem new_no (w : World) (L M : Int) (h : ¬ May L M) :
    Calls Try.prog 8 #[.agg #[.int .u64 L, .int .u64 M]] w fun e w' => e = .returned (.tuple #[.pointer none, .int .i64 2]) ∧ w.grownBy w' none := by
  unfold May at h
  by_cases h1 : L < 1
  · clear h
    go_enter Try.func8, Try.ntmps8
    go_wp2_with fail
    go_ret2
    exact ⟨rfl, g_alloc (World.grownBy.refl _ _) _⟩
  · by_cases h2 : M < L
    · clear h
      go_enter Try.func8, Try.ntmps8
      go_wp2_with fail
      go_ret2
      exact ⟨rfl, g_alloc (World.grownBy.refl _ _) _⟩
    · have h3 : 4294967296 < M := by omega
      clear h
      go_enter Try.func8, Try.ntmps8
      go_wp2_with fail
      go_ret2
      exact ⟨rfl, g_alloc (World.grownBy.refl _ _) _⟩

/-- a step that turns only a block of the call's own -/
theorem g_new {a w c : World} {row : Option Nat} {b : Nat} (h : a.grownBy w row) (k : w.grownBy c (some b)) (hb : a.heap.size ≤ b) : a.grownBy c row :=
  ⟨k.os.trans h.os, k.tape.trans h.tape, k.output.trans h.output, Nat.le_trans h.size k.size, fun i hi hne => (k.block i (Nat.lt_of_lt_of_le hi h.size) (fun e => by injection e; omega)).trans (h.block i hi hne)⟩

theorem new_yes (w : World) (L M : Int) (h : May L M) :
    Calls Try.prog 8 #[.agg #[.int .u64 L, .int .u64 M]] w fun e w' => ∃ b s, e = .returned (.tuple #[.pointer (some ⟨b, 0, none⟩), .int .i64 0]) ∧ w.heap.size ≤ b ∧ nanB s = true ∧ s < 2 ^ 64 ∧ Tm w' b 54 L M s s (clamp L M 1000) ∧ w.grownBy w' none := by
  obtain ⟨h1, h2, h3⟩ := h
  have n1 : ∀ W, Calls Try.prog 23 #[] W fun e w' => e = .returned (.float .f64 9221120237041090561) ∧ w' = W := fun W => (nanc_any W).mono fun e w' ⟨h1, h2⟩ => ⟨h1, h2.symm⟩
  have N1 := Lib.hid n1
  clear n1
  go_enter Try.func8, Try.ntmps8
  go_wp2_with fail
  obtain ⟨p, hp⟩ : ∃ p, p = w.heap.size := ⟨_, rfl⟩
  rw [← hp]
  have hP : (w.alloc (.cells #[.int .u64 L, .int .u64 M] 24)).heap[p]? = some (.cells #[.int .u64 L, .int .u64 M] 24 (0, 0)) := by rw [hp]; exact box_at w _
  have hG : w.grownBy (w.alloc (.cells #[.int .u64 L, .int .u64 M] 24)) none := g_alloc (World.grownBy.refl _ _) _
  generalize w.alloc (.cells #[.int .u64 L, .int .u64 M] 24) = W1 at *
  have c0 := cell_of hP 0 _ rfl
  have c1 := cell_of hP 1 _ rfl
  have HP := Lib.hid hp
  clear hp
  go_still_tail 4, (by kernel_rfl)
  still_call (N1.out _)
  repeat still_step
  still_call (N1.out _)
  repeat still_step
  refine wpStill_nil ?_
  change wpList _ _ _ _ _ W1.drew
  clear c0 c1
  have hG2 : w.grownBy W1.drew none := g_drew hG
  clear hG
  generalize W1.drew = W2 at *
  go_wp2_with (go_at_call 24; refine (set_any _ W2.heap.size L M 9221120237041090561 9221120237041090561 0 1000 (box_at W2 _)).mono ?_; rintro e w' ⟨rfl, h1, h2⟩)
  go_ret2
  refine ⟨W2.heap.size, 9221120237041090561, rfl, hG2.size, by decide +kernel, by omega, h1, ?_⟩
  exact g_new (g_alloc hG2 _) h2 hG2.size

theorem rnew_no (w : World) (L M : Int) (h : ¬ May L M) :
    Calls Try.prog 9 #[.agg #[.int .u64 L, .int .u64 M]] w fun e w' => e = .returned (.pointer none) ∧ w.grownBy w' none := by
  unfold May at h
  by_cases h1 : L < 1
  · clear h
    go_enter Try.func9, Try.ntmps9
    go_wp2_with fail
    go_ret
    exact ⟨rfl, g_alloc (World.grownBy.refl _ _) _⟩
  · by_cases h2 : M < L
    · clear h
      go_enter Try.func9, Try.ntmps9
      go_wp2_with fail
      go_ret
      exact ⟨rfl, g_alloc (World.grownBy.refl _ _) _⟩
    · have h3 : 4294967296 < M := by omega
      clear h
      go_enter Try.func9, Try.ntmps9
      go_wp2_with fail
      go_ret
      exact ⟨rfl, g_alloc (World.grownBy.refl _ _) _⟩

theorem rnew_calls (w : World) : Calls Try.prog 25 #[] w fun e w' => ∃ b, (nanB b = true ∧ b < 2 ^ 64) ∧ e = .returned (.float .f64 b) ∧ w' = w.drewN 1 :=
  (nan_any w).mono fun _ _ ⟨b, h1, h2, h3, h4⟩ => ⟨b, ⟨h2, h3⟩, h1, h4.symm⟩

/-- a number that is none -/
def IsNan (b : Nat) : Prop := nanB b = true ∧ b < 2 ^ 64
/-- the reference's New has made a timer -/
def RNew (w : World) (L M : Int) (e : Ending) (w' : World) : Prop :=
  ∃ b s d, e = .returned (.pointer (some ⟨b, 0, none⟩)) ∧ w.heap.size ≤ b ∧ IsNan s ∧ IsNan d ∧ Tm w' b 38 L M s d (clamp L M 1000) ∧ w.grownBy w' none

def RNewAt (w : World) (L M v : Int) (e : Ending) (w' : World) : Prop :=
  ∃ b s d, e = .returned (.pointer (some ⟨b, 0, none⟩)) ∧ w.heap.size ≤ b ∧ IsNan s ∧ IsNan d ∧ Tm w' b 38 L M s d v ∧ w.grownBy w' none

set_option maxHeartbeats 4000000 in
theorem rnew_yes (w : World) (L M : Int) (h : May L M) :
    Calls Try.prog 9 #[.agg #[.int .u64 L, .int .u64 M]] w (RNew w L M) := by
  obtain ⟨h1, h2, h3⟩ := h
  have hca : (L < 1000 ∧ M < 1000 ∧ clamp L M 1000 = M) ∨ (L < 1000 ∧ 1000 ≤ M ∧ clamp L M 1000 = 1000) ∨ (1000 ≤ L ∧ L ≤ M ∧ clamp L M 1000 = L) := by unfold clamp; omega
  have hcalls : ∀ W, Calls Try.prog 25 #[] W fun e w' => ∃ b, IsNan b ∧ e = .returned (.float .f64 b) ∧ w' = W.drewN 1 := rnew_calls
  have HC := Lib.hid hcalls
  clear hcalls
  unfold RNew
  rcases hca with ⟨h4, h5, h6⟩ | ⟨h4, h5, h6⟩ | ⟨h4, h5, h6⟩
  all_goals
    rw [h6]
    clear h6
    refine Calls.mono (R := RNewAt w L M _) ?_ (fun e w' h => h)
    go_enter Try.func9, Try.ntmps9
    go_wp2_with fail
    obtain ⟨p, hp⟩ : ∃ p, p = w.heap.size := ⟨_, rfl⟩
    rw [← hp]
    have hP : (w.alloc (.cells #[.int .u64 L, .int .u64 M] 24)).heap[p]? = some (.cells #[.int .u64 L, .int .u64 M] 24 (0, 0)) := by rw [hp]; exact box_at w _
    have hG : w.grownBy (w.alloc (.cells #[.int .u64 L, .int .u64 M] 24)) none := g_alloc (World.grownBy.refl _ _) _
    generalize w.alloc (.cells #[.int .u64 L, .int .u64 M] 24) = W1 at *
    have c0 := cell_of hP 0 _ rfl
    have c1 := cell_of hP 1 _ rfl
    have HP := Lib.hid hp
    clear hp
    go_region_held3 (fun w' => w'.cell? ⟨p, 0, none⟩ = some (.int .u64 L) ∧ w'.cell? ⟨p, 1, none⟩ = some (.int .u64 M)) (go_keep)
      (first | (go_at_call 25; refine (HC.out _).mono ?_; rintro e w' ⟨b, hb, rfl, rfl⟩))
  all_goals go_wp2
  all_goals go_ret
  all_goals refine ⟨W1.heap.size, _, _, rfl, hG.size, ?_, ?_, box_at W1 _, ?_⟩
  all_goals first | assumption | repeat (first | exact hG | apply g_drewN | apply g_drew | apply g_alloc)

theorem rbackoff_any (w : World) (b : Nat) (L M : Int) (s d : Nat) (v : Int) (ht : Tm w b 38 L M s d v) (hv0 : 0 ≤ v) (hv : v ≤ 4294967296) :
    Calls Try.prog 16 #[.pointer (some ⟨b, 0, none⟩)] w fun e w' => e = .returned (.tuple #[]) ∧ Tm w' b 38 L M s d (min (2 * v) M) ∧ w.grownBy w' (some b) := by
  have c1 := cell_of ht 1 _ rfl
  have c4 := cell_of ht 4 _ rfl
  have f4 := frozen_of ht 4
  go_enter Try.func16, Try.ntmps16
  go_region
  all_goals go_wp2
  all_goals go_end0
  all_goals refine ⟨rfl, ?_, g_drew (g_set (World.grownBy.refl _ _) _ _)⟩
  all_goals refine Tm.drew ?_
  · rw [show min (2 * v) M = M by omega]; exact ht.set4 _
  · rw [show min (2 * v) M = 2 * v by omega]; exact ht.set4 _

end Go.Proofs.Ytpgaohmmjjgboaa
