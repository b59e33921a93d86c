/-
  TimerPlays: whatever the conf and the script are, the law's Go text returns true: a timer's value, its smooth time and its deviation are the reference's, bit by bit. No condition.
-/
import Derived.Test.YtpgaohmmjjgboaaRowKit
namespace Go.Proofs.Ytpgaohmmjjgboaa.timerPlays
open Go.ChangeShapes Go.WideShapes Go.ChangeAt Go.RowKit Go.Deep Go.Joins

set_option maxRecDepth 100000 in
theorem lifted (os : Os) (started : os.Started) (H : Type) (enc : TypeId × Value → H) :
    ReturnsInHanded {} Try.checked os 3 .any (Rows.timerPlaysSpec.pre6 enc Try.prog Try.f3 Rows.timerPlaysRow.domain false) (Rows.timerPlaysSpec.post enc Try.prog Try.f3 false true false false) := by
  refine returnsInHanded_of_change (C := Try.checked) own started (by kernel_rfl) Try.func3
    (ChangeSpec.witness6 (enc := enc) (C := Try.checked) false ⟨#[], #[.agg #[.int .u64 0, .int .u64 0], .slice none 0 0], []⟩ 8 (by kernel_rfl) (by kernel_rfl) (by kernel_rfl) (by kernel_rfl)) ?_
  intro W base args ds gs before hval0 hW hcnd _
  have hval : ∀ (j : Nat) t v, Try.f3.params[j]? = some t → args[j]? = some v → Value.okWide Try.prog W .any base t v := hval0
  have hW' := hW
  have hlt := DataW.Whole.lt hW
  obtain ⟨p, q, hA0, hV, rfl, hfz, hnd⟩ := hW
  have hA : DataW.TrodAll enc Try.prog W 0 (fun _ => true) true Try.f3.params.toList args.toList ds p := hA0
  rw [Try.params3] at hA hval
  have hA1 := hA
  obtain ⟨v0, v1, d0, d1, p0, p1, rfl, rfl, rfl, h0, h1⟩ := trodAll_two hA
  obtain ⟨rfl, rfl⟩ := trodVars_none hV
  obtain ⟨c0, c1, y0, y1, m, rfl, rfl, rfl, t0, t1⟩ := open_agg2 Try.underlying24 (by kernel_rfl) (by kernel_rfl) (hval 0 24 v0 rfl rfl) h0
  obtain ⟨L, e0, _, _⟩ := DataW.trod_int Try.underlying22 t0
  obtain ⟨M, e1, _, _⟩ := DataW.trod_int Try.underlying22 t1
  have ec0 : c0 = .int .u64 L := by simpa using e0
  have ec1 : c1 = .int .u64 M := by simpa using e1
  subst ec0; subst ec1
  obtain ⟨a, len, cap, rfl⟩ := okWide_slice Try.underlying25 (hval 1 25 v1 rfl rfl)
  have hs : ∃ dos ns, len = 0 ∨ ∃ sb so, a = some ⟨sb, so, none⟩ ∧ Script W sb so len dos ns := by
    rcases open_script h1 with h | ⟨sb, so, dos, ns, h⟩
    · exact ⟨fun _ => 0, fun _ => 0, .inl h⟩
    · exact ⟨dos, ns, .inr ⟨sb, so, h⟩⟩
  obtain ⟨dos, ns, hs⟩ := hs
  clear hA0 hval0
  refine (plays_any a len cap L M dos ns W hs).mono fun e W' ⟨he, hg⟩ => ?_
  subst he
  have hb := below_of hg
  refine ⟨_, rfl, _, _, _, [], _, [], hW', trodAll_cons_mk (shut_bool Try.underlying4 _) trodAll_mk0,
    all_below laidOut hb (fun t ht => ?_) hA1 (fun x hx => hlt x (by simp only [List.append_nil] at hx ⊢; exact hx)), rfl, hb.frame _, fun h => by cases h⟩
  have ht' : t = 24 ∨ t = 25 := by simpa using ht
  rcases ht' with rfl | rfl
  · exact ⟨by kernel_rfl, of_decide_eq_true (by kernel_rfl)⟩
  · exact ⟨by kernel_rfl, of_decide_eq_true (by kernel_rfl)⟩

theorem proved : Rows.TimerPlaysSaid :=
  OpenClaim.holds_of_wide 3 Try.f3 rfl rfl rfl rfl rfl rfl rfl ⟨rfl, rfl, rfl, rfl, rfl⟩ rfl rfl rfl rfl rfl (by kernel_rfl) Try.func3 (by kernel_rfl)
    (of_decide_eq_true (by kernel_rfl)) (by unfold Func.isWrapper; first | (rw [if_pos (by decide +kernel)]; kernel_rfl) | (rw [if_neg (by decide +kernel)]; exact ⟨rfl, rfl⟩))
    (fun os started H enc _ => lifted os started H enc)
#print axioms proved
end Go.Proofs.Ytpgaohmmjjgboaa.timerPlays
