/-
  The walks of the program's New and of 'free', which ranges over what is held.
-/
import Derived.Test.YthcjmghdmcapeaaWalks
import Derived.Maps.RangeWalk
import Derived.OpenShut
namespace Go.Proofs.Ythcjmghdmcapeaa
open Go.RowKit Go.Maps Go.ChangeShapes

theorem map_kept {w w' : World} {P : Program} {k : TypeId} {R : Value → Option (Dm × List MemPlace)} {b n : Nat} {D : Dm} (h : w.ownsMap P k R b n D) (hb : w'.heap[b]? = w.heap[b]?) : w'.ownsMap P k R b n D := by
  obtain ⟨es, clock, h1, h2⟩ := h
  exact ⟨es, clock, hb.trans h1, h2⟩
theorem map_lt {w : World} {P : Program} {k : TypeId} {R : Value → Option (Dm × List MemPlace)} {b n : Nat} {D : Dm} (h : w.ownsMap P k R b n D) : b < w.heap.size := by
  obtain ⟨es, clock, h1, _⟩ := h
  exact lt_of h1
theorem map_tight {w : World} {P : Program} {k : TypeId} {R : Value → Option (Dm × List MemPlace)} {b n : Nat} {D : Dm} (h : w.ownsMap P k R b n D) : w.ownsMap P k R b (Maps.size D) D := by
  obtain ⟨es, clock, h1, h2, _, h4⟩ := h
  refine ⟨es, clock, h1, h2, ?_, h4⟩
  rw [h4, Maps.size_eq, length_read]
  exact Nat.le_refl _

/-- does a slice lie outside of some blocks? -/
theorem rdy_kept {S : Nat → Prop} {w w' : World} {B : Nat} {v : Value} {l : List UInt8} (h : Rdy w B v l) (f : Fr S w w') (hn : ∀ r, v.ownBlock = some r → ¬ S r) : Rdy w' B v l := by
  rcases h with h | ⟨h1, h2⟩
  · obtain ⟨h1, a, h2, h3⟩ := h
    exact .inl ⟨h1, a, h2, fun ad e => Nat.lt_of_lt_of_le (h3 ad e) f.size⟩
  · right
    refine ⟨h1, ?_⟩
    rcases h2 with h2 | ⟨g, cap, cur, rfl, h3, h4, h5⟩
    · exact .inl h2
    · exact .inr ⟨g, cap, cur, rfl, h3, f.keeps h4 (hn g rfl), h5⟩

theorem FQ.kept {S : Nat → Prop} {w w' : World} {B bq bm : Nat} {rv : Value} {q : Q} {D : Dm} {en : Nat} (h : FQ w B bq bm rv q D en) (f : Fr S w w') (h1 : ¬ S bq) (h2 : ¬ S bm) (h3 : ∀ r, rv.ownBlock = some r → ¬ S r) : FQ w' B bq bm rv q D en :=
  ⟨f.keeps h.cells h1, rdy_kept h.rdy f h3, map_kept h.own (f.block bm (map_lt h.own) h2), h.is, h.endAt, h.en, h.apart, h.inv⟩

theorem FQ.new {w w' : World} {B bq bm : Nat} {rv : Value} {q : Q} {D : Dm} {en : Nat} (h : FQ w B bq bm rv q D en) (f : Fr (fun _ => False) w w') : FQ w' B bq bm rv q D en :=
  h.kept f (fun h => h) (fun h => h) (fun _ _ h => h)

theorem fnew_no (n : Int) (next : Int) (w : World) (h : n < 1 ∨ 65536 < n) : Calls Try.prog 10 #[.int .u32 next, .int .i64 n] w fun e w' => e = .returned (.tuple #[.pointer none, .int .i64 2]) ∧ w = w' := by
  by_cases h1 : n < 1
  · clear h
    go_enter Try.func10, Try.ntmps10
    go_wp2
    go_ret2
    exact ⟨rfl, rfl⟩
  · have h2 : 65536 < n := by omega
    clear h
    go_enter Try.func10, Try.ntmps10
    go_wp2
    go_ret2
    exact ⟨rfl, rfl⟩

theorem fnew_yes (size next : Nat) (w : World) (B : Nat) (hB : B ≤ w.heap.size) (h1 : 1 ≤ size) (h2 : size ≤ 65536) (h3 : next < M32) : Calls Try.prog 10 #[.int .u32 (next : Int), .int .i64 (size : Int)] w fun e w' =>
    ∃ bq bm D, e = .returned (.tuple #[.pointer (some ⟨bq, 0, none⟩), .int .i64 0]) ∧ FQ w' B bq bm (.slice none 0 0) (Q.new next size) D 0 ∧ w.heap.size ≤ bq ∧ w.heap.size ≤ bm ∧ Fr (fun _ => False) w w' := by
  have hmm := @run_makeMap Try.prog
  go_enter Try.func10, Try.ntmps10
  go_wp2
  go_ret2
  refine ⟨_, w.heap.size, .map [], rfl, ⟨?_, .inl ⟨rfl, none, rfl, fun _ h => by cases h⟩, ?_, mapis_new, (fun x hx => by cases hx), by decide, ⟨?_, hB, ?_, ?_, ?_⟩, inv_new h3 h1 h2⟩, ?_, Nat.le_refl _, ?_⟩
  · have e := fun o => box_at (w.alloc (.map #[] 0)) o
    simp only [World.size_alloc] at e
    exact e _
  · exact map_kept (World.ownsMap_made w Try.prog 22 _) (by rw [Below.heap_alloc _ _ _ (by simp)])
  · omega
  · omega
  · simp [Value.ownBlock]
  · simp [Value.ownBlock]
  · omega
  · exact (Fr.refl.alloc _).alloc _

theorem pos_int {q : Q} (h : q.next < M32) (k : Nat) : ((k : Int) - (q.next : Int)) % 4294967296 = (q.pos k : Int) := by
  unfold Q.pos M32 at *
  omega

/-- WHAT 'free' TELLS -/
theorem free_any {w : World} {B bq bm : Nat} {rv : Value} {q : Q} {D : Dm} {en : Nat} (h : FQ w B bq bm rv q D en) (k : Nat) :
    Calls Try.prog 24 #[.pointer (some ⟨bq, 0, none⟩), .int .u32 (k : Int)] w fun e w' => e = .returned (.bool (q.clear (q.pos k))) ∧ Fr (fun _ => False) w w' := by
  have c3 := cell_of h.cells 3 _ rfl
  have hown := h.own
  have hN := h.inv.next
  go_enter Try.func24, Try.ntmps24
  go_wp2_with (first
    | (at_range; refine wpList_range_own _ rfl _ 46 rfl 22 5 law22 Try.underlying46 _ bm _ _ rfl hown ?_; intro w0 hrg0 hg0 hs0)
    | go_in)
  go_frame
  have f0 : Fr (fun _ => False) w w0 := ⟨hg0.os, hg0.tape, hg0.output, hg0.size, fun i hi _ => hg0.block i hi (by simp)⟩
  clear c3
  go_loopw [5] (fun _ wr => ∃ (left : Lit → Bool) (cnt : Nat), wr.ranges Try.prog 22 (plainElem Try.prog 5) bm w.heap.size (Maps.size D) D left cnt ∧ Fr (fun _ => False) w wr ∧
      (∀ kl, left kl = true → Maps.has D kl = true) ∧ (∀ j, j < M32 → Maps.has D (key j) = true → left (key j) = true ∨ q.pos j < q.pos k))
    (fun _ wr => wr.rangeLeft bm w.heap.size)
  case atStart => exact ⟨_, _, hrg0, f0, fun _ h => h, fun _ _ h => .inl h⟩
  case round =>
    obtain ⟨left, cnt, hrg, f1, hl1, hl2⟩ := hrel
    go_wp2_with (first
      | (at_next; refine wpList_next_ranges_ii _ rfl _ rfl 22 5 .u32 .u8 law22 Try.underlying22 Try.underlying5 bm w.heap.size _ _ _ _ rfl hrg ?_ ?_)
      | go_in)
    · intro h00 hl0
      clear h00
      have hc : q.clear (q.pos k) = true := by
        rw [clear_iff]
        intro i v hi
        have hi32 : i < M32 := by have := got_lt hi; have := h.inv.len; have := h.inv.size2; unfold M32; omega
        have hp := pos_of hN hi32
        have hlt : (q.next + i) % M32 < M32 := Nat.mod_lt _ (by decide)
        rcases hl2 _ hlt (by rw [h.is.has _ hlt, hp, hi]; rfl) with h1 | h1
        · rw [hl0] at h1; cases h1
        · rw [hp] at h1; exact h1
      have HC := Lib.hid hc
      clear hc hl1 hl2 hl0
      go_wp2
      go_ret
      exact ⟨by rw [HC.out]; rfl, f1⟩
    · intro x c w1 cnt1 hwx hwc hlx hat hrg1 hlt hg1 hs1 hen
      have f2 : Fr (fun _ => False) w w1 := f1.grown hg1 (fun j hj => by cases hj; exact .inr (Nat.le_refl _))
      have hq := h.kept f2 (fun h => h) (fun h => h) (fun _ _ h => h)
      have c0 := cell_of hq.cells 0 _ rfl
      obtain ⟨y, rfl⟩ : ∃ y : Nat, x = (y : Int) := Int.eq_ofNat_of_zero_le (bounds_u32 hwx).1
      have hy : y < M32 := by have := (bounds_u32 hwx).2; unfold M32; omega
      have e1 := pos_int hN y
      have e2 := pos_int hN k
      have E1 := Lib.hid e1
      have E2 := Lib.hid e2
      have HL := Lib.hid (And.intro hl1 hl2)
      have HX := Lib.hid hlx
      have HA := Lib.hid hat
      clear e1 e2 hl1 hl2 hlx hat hwx hwc hq
      by_cases hge : q.pos k ≤ q.pos y
      · have t1 : ((k : Int) - (q.next : Int)) % 4294967296 ≤ ((y : Int) - (q.next : Int)) % 4294967296 := by rw [E1.out, E2.out]; omega
        have hc : q.clear (q.pos k) = false := by
          cases hcl : q.clear (q.pos k) with
          | false => rfl
          | true =>
            exfalso
            have h1 := HL.out.1 _ HX.out
            have h2 := h.is.has y hy
            unfold key at h2
            rw [h1] at h2
            obtain ⟨v, hv⟩ := Option.isSome_iff_exists.1 h2.symm
            have := clear_iff.1 hcl _ _ hv
            omega
        have HC := Lib.hid hc
        clear hc hge
        go_wp2_with fail
        go_quiet (fail)
        go_wp2_with fail
        go_ret
        exact ⟨by rw [HC.out]; rfl, f2.drewN _⟩
      · have t1 : ¬ ((k : Int) - (q.next : Int)) % 4294967296 ≤ ((y : Int) - (q.next : Int)) % 4294967296 := by rw [E1.out, E2.out]; omega
        have t2 : decide (((k : Int) - (q.next : Int)) % 4294967296 ≤ ((y : Int) - (q.next : Int)) % 4294967296) = false := decide_eq_false t1
        clear t1
        go_wp2_with fail
        go_quiet (fail)
        go_wp2_with fail
        go_roundw
        case rel =>
          refine ⟨fun z => left z && !z.sameKey (.int .u32 (y : Int)), cnt1, ?_, f2.drewN _, ?_, ?_⟩
          · obtain ⟨es, clock, since, seen, c0, g1, g2⟩ := hrg1
            exact ⟨es, clock, since, seen, c0, g1, g2⟩
          · intro kl hkl
            simp only [Bool.and_eq_true] at hkl
            exact HL.out.1 kl hkl.1
          · intro j hj hD
            rcases HL.out.2 j hj hD with h1 | h1
            · by_cases hjy : j = y
              · right; subst hjy; omega
              · left
                have h2 : (key j).sameKey (.int .u32 (y : Int)) = false := sameKey_ne (key_ne hjy)
                show (left (key j) && !(key j).sameKey (.int .u32 (y : Int))) = true
                rw [h1, h2]; rfl
            · exact .inr h1
        case measure =>
          have hr1 : (w1.drewN nq).ranges Try.prog 22 (plainElem Try.prog 5) bm w.heap.size (Maps.size D) D (fun z => left z && !z.sameKey (.int .u32 (y : Int))) cnt1 := hrg1
          rw [hr1.left_eq, hrg.left_eq]; exact hlt

end Go.Proofs.Ythcjmghdmcapeaa
