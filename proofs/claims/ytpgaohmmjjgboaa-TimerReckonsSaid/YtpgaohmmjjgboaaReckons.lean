/-
  TimerReckons: whatever the bytes and the three numbers are (NaNs, infinities and zeros of either sign too), the law's Go text returns true: rates, pauses and mixes are the reference's. No condition.
-/
import Derived.Test.YtpgaohmmjjgboaaWorks
import Derived.ProofKit
import Derived.OpenShut
namespace Go.Proofs.Ytpgaohmmjjgboaa.timerReckons
open Go.ChangeShapes Go.WideShapes Go.ChangeAt Go.RowKit

theorem own : ownKnob Try.prog.godebug = none := by kernel_rfl

theorem walk (n : Int) (a b c : Nat) (w : World) (hn0 : 0 ≤ n) (hn : n < 18446744073709551616) (ha : a < 2 ^ 64) (hb : b < 2 ^ 64) (hc : c < 2 ^ 64) :
    Calls Try.prog 4 #[.int .u64 n, .float .f64 a, .float .f64 b, .float .f64 c] w fun e w' => e = .returned (.bool true) ∧ w.grownBy w' none := by
  go_enter Try.func4, Try.ntmps4
  go_wp2_with fail
  refine (rate_any n a _).mono ?_
  rintro e w' ⟨r1, m1, rfl, f1, l1, rfl⟩
  have F1 := Lib.hid f1
  clear f1
  go_wp2_with fail
  refine (rater_any n a ha _).mono ?_
  rintro e w' ⟨r2, m2, rfl, f2, l2, rfl⟩
  have F2 := Lib.hid f2
  clear f2
  go_wp2_with fail
  refine (same_fv l1 F1.out F2.out _).mono ?_
  rintro e w' ⟨rfl, rfl⟩
  go_wp2_with fail
  refine (pause_any n a _ hn0 hn ha).mono ?_
  rintro e w' ⟨rfl, rfl⟩
  go_wp2_with fail
  refine (pauser_any n a _ hn0 hn ha).mono ?_
  rintro e w' ⟨rfl, m3, rfl⟩
  go_wp2_with fail
  refine (mix_any a b c _ ha hb hc).mono ?_
  rintro e w' ⟨r4, m4, rfl, f4, l4, rfl⟩
  have F4 := Lib.hid f4
  clear f4
  go_wp2_with fail
  refine (mixr_any a b c _ ha hb hc).mono ?_
  rintro e w' ⟨r5, m5, rfl, f5, l5, rfl⟩
  have F5 := Lib.hid f5
  clear f5
  go_wp2_with fail
  refine (same_fv l4 F4.out F5.out _).mono ?_
  rintro e w' ⟨rfl, rfl⟩
  go_wp2_with fail
  refine (works_any _).mono ?_
  rintro e w2 ⟨rfl, g2⟩
  go_wp2_with fail
  go_ret
  exact ⟨rfl, ⟨g2.os, g2.tape, g2.output, g2.size, g2.block⟩⟩

theorem below_of {w w' : World} (h : w.grownBy w' none) : Below w.heap.size w w' := ⟨h.os, h.tape, h.output, h.size, fun k hk => h.block k hk (by simp)⟩

theorem lt_of_wf {b : Nat} (h : (Lit.float .f64 b).wf = true) : b < 2 ^ 64 := by
  simpa [Lit.wf] using h

set_option maxRecDepth 100000 in
theorem lifted (os : Os) (started : os.Started) (H : Type) (enc : TypeId × Value → H) :
    ReturnsInHanded {} Try.checked os 4 .any (Rows.timerReckonsSpec.pre6 enc Try.prog Try.f4 Rows.timerReckonsRow.domain false) (Rows.timerReckonsSpec.post enc Try.prog Try.f4 false true false false) := by
  refine returnsInHanded_of_change (C := Try.checked) own started (by kernel_rfl) Try.func4
    (ChangeSpec.witness6 (enc := enc) (C := Try.checked) false ⟨#[], #[.int .u64 0, .float .f64 0, .float .f64 0, .float .f64 0], []⟩ 8 (by kernel_rfl) (by kernel_rfl) (by kernel_rfl) (by kernel_rfl)) ?_
  intro W base args ds gs before hval0 hW hcnd _
  have hval : ∀ (j : Nat) t v, Try.f4.params[j]? = some t → args[j]? = some v → Value.okWide Try.prog W .any base t v := hval0
  have hW' := hW
  obtain ⟨p, q, hA0, hV, rfl, hfz, hnd⟩ := hW
  have hA : DataW.TrodAll enc Try.prog W 0 (fun _ => true) true Try.f4.params.toList args.toList ds p := hA0
  rw [Try.params4] at hA hval
  obtain ⟨v0, v1, v2, v3, d0, d1, d2, d3, p0, p1, p2, p3, rfl, rfl, rfl, h0, h1, h2, h3⟩ := trodAll_four hA
  obtain ⟨rfl, rfl⟩ := trodVars_none hV
  obtain ⟨a0, rfl, rfl, rfl, w0⟩ := open_int Try.underlying22 (hval 0 22 v0 rfl rfl) h0
  obtain ⟨a1, rfl, rfl, rfl, w1⟩ := open_float Try.underlying33 (hval 1 33 v1 rfl rfl) h1
  obtain ⟨a2, rfl, rfl, rfl, w2⟩ := open_float Try.underlying33 (hval 2 33 v2 rfl rfl) h2
  obtain ⟨a3, rfl, rfl, rfl, w3⟩ := open_float Try.underlying33 (hval 3 33 v3 rfl rfl) h3
  clear hA0 hval0
  simp only [List.append_nil] at hW'
  have hb0 := bounds_u64 w0
  refine (walk a0 a1 a2 a3 W hb0.1 (by have := hb0.2; omega) (lt_of_wf w1) (lt_of_wf w2) (lt_of_wf w3)).mono fun e W' ⟨he, hg⟩ => ?_
  subst he
  exact ⟨_, rfl, _, _, _, [], [], [], hW', trodAll_cons_mk (shut_bool Try.underlying4 _) trodAll_mk0,
    trodAll_mk4 (shut_int Try.underlying22 w0) (shut_float Try.underlying33 w1) (shut_float Try.underlying33 w2) (shut_float Try.underlying33 w3), rfl, (below_of hg).frame _, fun h => by cases h⟩

theorem proved : Rows.TimerReckonsSaid :=
  OpenClaim.holds_of_wide 4 Try.f4 rfl rfl rfl rfl rfl rfl rfl ⟨rfl, rfl, rfl, rfl, rfl⟩ rfl rfl rfl rfl rfl (by kernel_rfl) Try.func4 (by kernel_rfl)
    (of_decide_eq_true (by kernel_rfl)) (by unfold Func.isWrapper; first | (rw [if_pos (by decide +kernel)]; kernel_rfl) | (rw [if_neg (by decide +kernel)]; exact ⟨rfl, rfl⟩))
    (fun os started H enc _ => lifted os started H enc)
#print axioms proved
end Go.Proofs.Ytpgaohmmjjgboaa.timerReckons
