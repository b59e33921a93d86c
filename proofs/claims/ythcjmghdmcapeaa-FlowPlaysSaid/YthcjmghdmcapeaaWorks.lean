/-
  The walk of 'works': bytes out of order, a small known run.
-/
import Derived.Test.YthcjmghdmcapeaaHeavy
namespace Go.Proofs.Ythcjmghdmcapeaa
open Go.RowKit Go.Maps Go.ChangeShapes

def qw0 : Q := Q.new 4294967294 8
def qw1 : Q := qw0.put 0 [99, 100] false
def qw2 : Q := qw1.put 4294967294 [97, 98] false
def qw3 : Q := qw2.read 4
def qw4 : Q := qw3.put 2 [] true
theorem qw_facts : qw1.next = 4294967294 ∧ qw1.held = 2 ∧ qw2.next = 2 ∧ qw2.ready = [97, 98, 99, 100] ∧ qw3.next = 2 ∧ qw4.ended = true ∧ qw4.next = 3 := by decide

def WorksPost (w : World) (e : Ending) (w' : World) : Prop := e = .returned (.bool true) ∧ Fr (fun _ => False) w w'

theorem own_fr {w0 w w' : World} {bq bm : Nat} {rv : Value} (f0 : Fr (fun _ => False) w0 w) (f : Fr (Own3 bq bm rv) w w') (h1 : w0.heap.size ≤ bq) (h2 : w0.heap.size ≤ bm) (h3 : ∀ r, rv.ownBlock = some r → w0.heap.size ≤ r) : Fr (fun _ => False) w0 w' :=
  f0.step f (fun i hi => .inr (by
    rcases hi with e | e | e
    · omega
    · omega
    · exact h3 i e))

theorem loc_ge {w0 w : World} {rv rv' : Value} (hs : w0.heap.size ≤ w.heap.size) (h3 : ∀ r, rv.ownBlock = some r → w0.heap.size ≤ r) (h : Loc w rv rv') : ∀ r, rv'.ownBlock = some r → w0.heap.size ≤ r := by
  intro r hr
  rcases h with h | ⟨r', h1, h2⟩
  · exact h3 r (by rw [← h]; exact hr)
  · rw [h1] at hr; injection hr with hr; omega

set_option maxRecDepth 100000 in
theorem works_any (w : World) : Calls Try.prog 5 #[] w (WorksPost w) := by
  go_enter Try.func5, Try.ntmps5
  go_wp2_with fail
  refine (fnew_yes 8 4294967294 w w.heap.size (Nat.le_refl _) (by omega) (by omega) (by decide)).mono ?_
  rintro e w1 ⟨bq, bm, D1, rfl, F1, hq, hm, f1⟩
  have R1 := Lib.hid (show ∀ r, (Value.slice none 0 0).ownBlock = some r → w.heap.size ≤ r from fun r h => by cases h)
  have G1 := Lib.hid f1
  have H1 := Lib.hid F1
  clear f1 F1
  go_wp2_with fail
  refine (fput_any H1.out G1.out.size 0 ⟨#[99, 100]⟩ false).mono ?_
  rintro e w2 ⟨rfl, rv2, D2, en2, F2, f2, l2⟩
  have R2 := Lib.hid (loc_ge G1.out.size R1.out l2)
  have G2 := Lib.hid (own_fr G1.out f2 hq hm R1.out)
  have H2 := Lib.hid F2
  clear f2 F2 l2
  go_wp2_with fail
  refine (held_any H2.out).mono ?_
  rintro e w2' ⟨rfl, rfl⟩
  go_wp2_with fail
  refine (fput_any H2.out G2.out.size 4294967294 ⟨#[97, 98]⟩ false).mono ?_
  rintro e w3 ⟨rfl, rv3, D3, en3, F3, f3, l3⟩
  have R3 := Lib.hid (loc_ge G2.out.size R2.out l3)
  have G3 := Lib.hid (own_fr G2.out f3 hq hm R2.out)
  have H3 := Lib.hid F3
  clear f3 F3 l3
  go_wp2_with fail
  refine (fread_any H3.out G3.out.size 9).mono ?_
  rintro e w4 ⟨rfl, rv4, F4, f4, l4⟩
  have R4 := Lib.hid (loc_ge G3.out.size R3.out l4)
  have G4 := Lib.hid (own_fr G3.out f4 hq hm R3.out)
  have H4 := Lib.hid F4
  clear f4 F4 l4
  go_wp2_with fail
  refine (fput_any H4.out G4.out.size 2 ⟨#[]⟩ true).mono ?_
  rintro e w5 ⟨rfl, rv5, D5, en5, F5, f5, l5⟩
  have G5 := Lib.hid (own_fr G4.out f5 hq hm R4.out)
  have H5 := Lib.hid F5
  clear f5 F5 l5
  go_wp2_with fail
  refine (ended_any H5.out).mono ?_
  rintro e w6 ⟨rfl, rfl⟩
  go_wp2_with fail
  refine (next_any H5.out).mono ?_
  rintro e w6 ⟨rfl, rfl⟩
  go_wp2_with fail
  refine (less_any 4294967295 0 _).mono ?_
  rintro e w6 ⟨rfl, rfl⟩
  go_wp2_with fail
  refine (less_any 0 4294967295 _).mono ?_
  rintro e w6 ⟨rfl, rfl⟩
  go_wp2_with fail
  refine (in_any 1 4294967295 3 _).mono ?_
  rintro e w6 ⟨rfl, rfl⟩
  go_wp2_with fail
  go_ret
  exact ⟨rfl, G5.out⟩

end Go.Proofs.Ythcjmghdmcapeaa
