/-
  The walk of the statements' small known run.
-/
import Derived.Test.YtpgaohmmjjgboaaRef
namespace Go.Proofs.Ytpgaohmmjjgboaa
open Go.RowKit Ieee Fl

def B100 : Nat := 4636737291354636288
def B50 : Nat := 4632233691727265792
def B375 : Nat := 4630474473122824192

theorem k100 : floatOfInt .f64 100 = B100 := by decide +kernel
theorem k50 : double.div B100 TWO = some B50 := by decide +kernel
theorem kv1 : valO B100 B50 = some 300 := by decide +kernel
theorem ks : B100 = mixF B100 B100 Q875 := by decide +kernel
theorem kd : B375 = mixF B50 (subR B100 B100) Q75 := by decide +kernel
theorem kv2 : valO B100 B375 = some 250 := by decide +kernel
theorem krate : rateO 10 4616189618054758400 = some 4612811918334230528 := by decide +kernel
theorem kpause : pauseN 10 4616189618054758400 = 3 := by decide +kernel
theorem kmix : mixO 4616189618054758400 4620693217682128896 4602678819172646912 = some 4618441417868443648 := by decide +kernel

theorem rate_works (W : World) : Calls Try.prog 17 #[.int .u64 10, .float .f64 4616189618054758400] W fun e w' => e = .returned (.float .f64 4612811918334230528) ∧ ∃ n, w' = W.drewN n :=
  (rate_any 10 4616189618054758400 W).mono fun _ _ ⟨r, m, he, hf, _, hw⟩ => by
    rw [krate] at hf
    have hf' : r = 4612811918334230528 := hf
    exact ⟨by rw [he, hf'], m, hw⟩
theorem pause_works (W : World) : Calls Try.prog 19 #[.int .u64 10, .float .f64 4616189618054758400] W fun e w' => e = .returned (.int .u64 3) ∧ w' = W :=
  (pause_any 10 4616189618054758400 W (by omega) (by omega) (by omega)).mono fun _ _ ⟨he, hw⟩ => ⟨by rw [he, kpause], hw.symm⟩
theorem mix_works (W : World) : Calls Try.prog 21 #[.float .f64 4616189618054758400, .float .f64 4620693217682128896, .float .f64 4602678819172646912] W fun e w' => e = .returned (.float .f64 4618441417868443648) ∧ ∃ n, w' = W.drewN n :=
  (mix_any _ _ _ W (by omega) (by omega) (by omega)).mono fun _ _ ⟨r, m, he, hf, _, hw⟩ => by
    rw [kmix] at hf
    have hf' : r = 4618441417868443648 := hf
    exact ⟨by rw [he, hf'], m, hw⟩

theorem first_works (w : World) (b : Nat) (s d : Nat) (v : Int) (ht : Tm w b 54 200 60000 s d v) (hs : nanB s = true) (hs2 : s < 2 ^ 64) :
    Calls Try.prog 13 #[.pointer (some ⟨b, 0, none⟩), .int .u64 100] w fun e w' => e = .returned (.tuple #[]) ∧ Tm w' b 54 200 60000 B100 B50 300 ∧ w.grownBy w' (some b) := by
  have h := sample_first w b 200 60000 s d v 100 ht (by omega) (by omega) hs hs2 B50 (by rw [k100]; exact k50) (by decide) 300 (by rw [k100]; exact kv1)
  rw [k100] at h
  exact h
theorem later_works (w : World) (b : Nat) (v : Int) (ht : Tm w b 54 200 60000 B100 B50 v) :
    Calls Try.prog 13 #[.pointer (some ⟨b, 0, none⟩), .int .u64 100] w fun e w' => e = .returned (.tuple #[]) ∧ Tm w' b 54 200 60000 B100 B375 250 ∧ w.grownBy w' (some b) :=
  sample_later w b 200 60000 B100 B50 v 100 ht (by omega) (by omega) (by decide) (by decide) (by rw [k100]; decide) B100 B375 (by rw [k100]; exact ks) (by rw [k100]; exact kd) (by decide) 250 kv2

theorem clamp_new : clamp 200 60000 1000 = 1000 := by decide
theorem clamp_back : clamp 200 60000 (2 * 250) = 500 := by decide

theorem back_works (w : World) (b : Nat) (ht : Tm w b 54 200 60000 B100 B375 250) :
    Calls Try.prog 15 #[.pointer (some ⟨b, 0, none⟩)] w fun e w' => e = .returned (.tuple #[]) ∧ Tm w' b 54 200 60000 B100 B375 500 ∧ w.grownBy w' (some b) := by
  have h := backoff_any w b 200 60000 B100 B375 250 ht (by omega) (by omega)
  rw [clamp_back] at h
  exact h

theorem new_works (w : World) : Calls Try.prog 8 #[.agg #[.int .u64 200, .int .u64 60000]] w fun e w' => ∃ b s, e = .returned (.tuple #[.pointer (some ⟨b, 0, none⟩), .int .i64 0]) ∧ w.heap.size ≤ b ∧ nanB s = true ∧ s < 2 ^ 64 ∧ Tm w' b 54 200 60000 s s 1000 ∧ w.grownBy w' none := by
  have h := new_yes w 200 60000 ⟨by omega, by omega, by omega⟩
  rw [clamp_new] at h
  exact h

theorem ord100 : FloatKind.f64.format.order B100 4636737291354636288 = some .eq := by decide
theorem ord375 : FloatKind.f64.format.order B375 4630474473122824192 = some .eq := by decide
theorem ord25 : FloatKind.f64.format.order 4612811918334230528 4612811918334230528 = some .eq := by decide
theorem ord6 : FloatKind.f64.format.order 4618441417868443648 4618441417868443648 = some .eq := by decide

theorem works_any (w : World) : Calls Try.prog 7 #[] w fun e w' => e = .returned (.bool true) ∧ w.grownBy w' none := by
  have o1 := ord100
  have o2 := ord375
  have o3 := ord25
  have o4 := ord6
  go_enter Try.func7, Try.ntmps7
  go_wp2_with fail
  refine (new_works _).mono ?_
  rintro e w1 ⟨b, s, rfl, hb, hs, hs2, h1, g1⟩
  have HS := Lib.hid hs
  clear hs
  go_wp2_with fail
  refine (value_any _ _ _ _ _ _ _ h1).mono ?_
  rintro e w' ⟨rfl, rfl⟩
  go_wp2_with fail
  refine (first_works _ _ _ _ _ h1 HS.out hs2).mono ?_
  rintro e w2 ⟨rfl, h2, g2⟩
  go_wp2_with fail
  refine (value_any _ _ _ _ _ _ _ h2).mono ?_
  rintro e w' ⟨rfl, rfl⟩
  go_wp2_with fail
  refine (later_works _ _ _ h2).mono ?_
  rintro e w3 ⟨rfl, h3, g3⟩
  go_wp2_with fail
  refine (value_any _ _ _ _ _ _ _ h3).mono ?_
  rintro e w' ⟨rfl, rfl⟩
  go_wp2_with fail
  refine (back_works _ _ h3).mono ?_
  rintro e w4 ⟨rfl, h4, g4⟩
  go_wp2_with fail
  refine (smooth_any _ _ _ _ _ _ _ h4).mono ?_
  rintro e w5 ⟨rfl, n5, hw5⟩
  have h5 : Tm w5 b 54 200 60000 B100 B375 500 := by rw [hw5]; exact h4.drewN _
  have g5 : w.grownBy w5 none := by rw [hw5]; exact g_drewN (g_new (g_new (g_new g1 g2 hb) g3 hb) g4 hb) _
  clear hw5
  go_wp2_with (go_at_call 11; refine (value_any _ _ _ _ _ _ _ h5).mono ?_; rintro e w' ⟨rfl, rfl⟩)
  refine (rate_works _).mono ?_
  rintro e w' ⟨rfl, m, rfl⟩
  go_wp2_with fail
  refine (pause_works _).mono ?_
  rintro e w' ⟨rfl, rfl⟩
  go_wp2_with fail
  refine (mix_works _).mono ?_
  rintro e w' ⟨rfl, k, rfl⟩
  go_wp2_with fail
  go_ret
  exact ⟨rfl, g_drewN g5 _⟩

end Go.Proofs.Ytpgaohmmjjgboaa
