/-
  TimerBounds: whatever the bounds, the script, the sample, the bytes and the rate are, the law's Go text returns true: a timer's value is within its bounds, samples that are alike bring it to them, and a pause is from 0 to MaxTimer and long enough. No condition.
-/
import Derived.Test.YtpgaohmmjjgboaaRowKit
import Derived.Test.YtpgaohmmjjgboaaBounds
namespace Go.Proofs.Ytpgaohmmjjgboaa.timerBounds
open Go.ChangeShapes Go.WideShapes Go.ChangeAt Go.RowKit Go.Deep Go.Joins

set_option maxRecDepth 100000 in
theorem lifted (os : Os) (started : os.Started) (H : Type) (enc : TypeId × Value → H) :
    ReturnsInHanded {} Try.checked os 5 .any (Rows.timerBoundsSpec.pre6 enc Try.prog Try.f5 Rows.timerBoundsRow.domain false) (Rows.timerBoundsSpec.post enc Try.prog Try.f5 false true false false) := by
  refine returnsInHanded_of_change (C := Try.checked) own started (by kernel_rfl) Try.func5
    (ChangeSpec.witness6 (enc := enc) (C := Try.checked) false ⟨#[], #[.int .u16 0, .int .u16 0, .slice none 0 0, .int .u16 0, .int .u32 0, .float .f64 0], []⟩ 8 (by kernel_rfl) (by kernel_rfl) (by kernel_rfl) (by kernel_rfl)) ?_
  intro W base args ds gs before hval0 hW hcnd _
  have hval : ∀ (j : Nat) t v, Try.f5.params[j]? = some t → args[j]? = some v → Value.okWide Try.prog W .any base t v := hval0
  have hW' := hW
  have hlt := DataW.Whole.lt hW
  obtain ⟨p, q, hA0, hV, rfl, hfz, hnd⟩ := hW
  have hA : DataW.TrodAll enc Try.prog W 0 (fun _ => true) true Try.f5.params.toList args.toList ds p := hA0
  rw [Try.params5] at hA hval
  have hA1 := hA
  obtain ⟨v0, vs0, d0, ds0, p0, q0, hargs, rfl, rfl, h0, r0⟩ := trodAll_cons hA
  obtain ⟨v1, vs1, d1, ds1, p1, q1, rfl, rfl, rfl, h1, r1⟩ := trodAll_cons r0
  obtain ⟨v2, vs2, d2, ds2, p2, q2, rfl, rfl, rfl, h2, r2⟩ := trodAll_cons r1
  obtain ⟨v3, vs3, d3, ds3, p3, q3, rfl, rfl, rfl, h3, r3⟩ := trodAll_cons r2
  obtain ⟨v4, vs4, d4, ds4, p4, q4, rfl, rfl, rfl, h4, r4⟩ := trodAll_cons r3
  obtain ⟨v5, vs5, d5, ds5, p5, q5, rfl, rfl, rfl, h5, r5⟩ := trodAll_cons r4
  obtain ⟨rfl, rfl, rfl⟩ := trodAll_nil r5
  obtain rfl : args = #[v0, v1, v2, v3, v4, v5] := by cases args; simp_all
  obtain ⟨rfl, rfl⟩ := trodVars_none hV
  obtain ⟨a0, rfl, _, _, w0⟩ := open_int Try.underlying48 (hval 0 48 v0 rfl rfl) h0
  obtain ⟨a1, rfl, _, _, w1⟩ := open_int Try.underlying48 (hval 1 48 v1 rfl rfl) h1
  obtain ⟨a, len, cap, rfl⟩ := okWide_slice Try.underlying25 (hval 2 25 v2 rfl rfl)
  obtain ⟨a3, rfl, _, _, w3⟩ := open_int Try.underlying48 (hval 3 48 v3 rfl rfl) h3
  obtain ⟨a4, rfl, _, _, w4⟩ := open_int Try.underlying49 (hval 4 49 v4 rfl rfl) h4
  obtain ⟨a5, rfl, _, _, w5⟩ := open_float Try.underlying33 (hval 5 33 v5 rfl rfl) h5
  have hs : ∃ dos ns, len = 0 ∨ ∃ sb so, a = some ⟨sb, so, none⟩ ∧ Script W sb so len dos ns := by
    rcases open_script h2 with h | ⟨sb, so, dos, ns, h⟩
    · exact ⟨fun _ => 0, fun _ => 0, .inl h⟩
    · exact ⟨dos, ns, .inr ⟨sb, so, h⟩⟩
  obtain ⟨dos, ns, hs⟩ := hs
  have b0 := bounds_u16 w0
  have b1 := bounds_u16 w1
  have b3 := bounds_u16 w3
  have b4 := bounds_u32 w4
  obtain ⟨ll, rfl⟩ := Int.eq_ofNat_of_zero_le b0.1
  obtain ⟨mm, rfl⟩ := Int.eq_ofNat_of_zero_le b1.1
  obtain ⟨n, rfl⟩ := Int.eq_ofNat_of_zero_le b3.1
  obtain ⟨byt, rfl⟩ := Int.eq_ofNat_of_zero_le b4.1
  clear hA0 hval0
  refine (bounds_any ll mm a len cap n byt a5 dos ns W (by have := b0.2; omega) (by have := b1.2; omega) (by have := b3.2; omega) (by have := b4.2; omega) (lt_of_wf w5) hs).mono fun e W' ⟨he, hg⟩ => ?_
  subst he
  have hb := below_of hg
  refine ⟨_, rfl, _, _, _, [], _, [], hW', trodAll_cons_mk (shut_bool Try.underlying4 _) trodAll_mk0,
    all_below laidOut hb (fun t ht => ?_) hA1 (fun x hx => hlt x (by simp only [List.append_nil] at hx ⊢; exact hx)), rfl, hb.frame _, fun h => by cases h⟩
  change t ∈ [48, 48, 25, 48, 49, 33] at ht
  simp only [List.mem_cons, List.not_mem_nil, or_false] at ht
  rcases ht with rfl | rfl | rfl | rfl | rfl | rfl
  all_goals exact ⟨by kernel_rfl, of_decide_eq_true (by kernel_rfl)⟩

theorem proved : Rows.TimerBoundsSaid :=
  OpenClaim.holds_of_wide 5 Try.f5 rfl rfl rfl rfl rfl rfl rfl ⟨rfl, rfl, rfl, rfl, rfl⟩ rfl rfl rfl rfl rfl (by kernel_rfl) Try.func5 (by kernel_rfl)
    (of_decide_eq_true (by kernel_rfl)) (by unfold Func.isWrapper; first | (rw [if_pos (by decide +kernel)]; kernel_rfl) | (rw [if_neg (by decide +kernel)]; exact ⟨rfl, rfl⟩))
    (fun os started H enc _ => lifted os started H enc)
#print axioms proved
end Go.Proofs.Ytpgaohmmjjgboaa.timerBounds
