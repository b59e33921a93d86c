/-
  The walks of the reference's queue: the small methods.
-/
import Derived.Test.YthcjmghdmcapeaaRead
namespace Go.Proofs.Ythcjmghdmcapeaa
open Go.RowKit Go.Maps Go.ChangeShapes

def boolsV (l : List (Option UInt8)) : List Value := l.map fun o => .bool o.isSome

/-- THE REFERENCE's QUEUE -/
structure RQ (w : World) (B br bi bb : Nat) (bs : List UInt8) (q : Q) (v : Int) : Prop where
  cells : w.heap[br]? = some (.cells #[.int .u32 (q.next : Int), .int .i64 (q.size : Int), .string ⟨q.ready.toArray⟩, .slice (some ⟨bi, 0, none⟩) (q.size + 1) (q.size + 1), .slice (some ⟨bb, 0, none⟩) (q.size + 1) (q.size + 1), .bool q.e.isSome, .int .i64 v, .bool q.ended] 43 (0, 0))
  is : w.heap[bi]? = some (.cells (boolsV q.h).toArray 4 (0, 0))
  b : w.heap[bb]? = some (.cells (bytesV bs).toArray 5 (0, 0))
  len : bs.length = q.size + 1
  got : ∀ i u, q.got i = some u → bs[i]? = some u
  endAt : ∀ x, q.e = some x → q.ended = false → v = (x : Int)
  apart : B ≤ br ∧ B ≤ bi ∧ B ≤ bb ∧ br ≠ bi ∧ br ≠ bb ∧ bi ≠ bb
  inv : Inv q

theorem RQ.kept {w w' : World} {B br bi bb : Nat} {bs : List UInt8} {q : Q} {v : Int} (h : RQ w B br bi bb bs q v) {S : Nat → Prop} (f : Fr S w w') (h1 : ¬ S br) (h2 : ¬ S bi) (h3 : ¬ S bb) : RQ w' B br bi bb bs q v :=
  ⟨f.keeps h.cells h1, f.keeps h.is h2, f.keeps h.b h3, h.len, h.got, h.endAt, h.apart, h.inv⟩

section
variable {w : World} {B br bi bb : Nat} {bs : List UInt8} {q : Q} {v : Int}
theorem RQ.new (h : RQ w B br bi bb bs q v) {w' : World} (f : Fr (fun _ => False) w w') : RQ w' B br bi bb bs q v := h.kept f (fun e => e) (fun e => e) (fun e => e)

theorem RQ.isAt (h : RQ w B br bi bb bs q v) {i : Nat} (hi : i < q.size + 1) : w.cell? ⟨bi, i, none⟩ = some (.bool (q.got i).isSome) := by
  refine cell_of h.is i _ ?_
  have hl := h.inv.len
  unfold boolsV Q.got
  rw [List.getElem?_toArray, List.getElem?_map, List.getElem?_eq_getElem (by omega)]
  rfl
theorem RQ.bAt (h : RQ w B br bi bb bs q v) {i : Nat} {u : UInt8} (hi : bs[i]? = some u) : w.cell? ⟨bb, i, none⟩ = some (.int .u8 (u.toNat : Int)) := by
  refine cell_of h.b i _ ?_
  unfold bytesV
  rw [List.getElem?_toArray, List.getElem?_map, hi]
  rfl

theorem rwindow_any (h : RQ w B br bi bb bs q v) : Calls Try.prog 19 #[.pointer (some ⟨br, 0, none⟩)] w fun e w' => e = .returned (.int .i64 (q.window : Int)) ∧ ∃ n, w' = w.drewN n := by
  have c1 := cell_of h.cells 1 _ rfl
  have c2 := cell_of h.cells 2 _ rfl
  have c7 := cell_of h.cells 7 _ rfl
  have hr := h.inv.ready
  have hs2 := h.inv.size2
  unfold Q.window Q.win
  cases he : q.ended
  · rw [he] at c7
    have e : ((if false = true then 0 else q.size - q.ready.length : Nat) : Int) = (q.size : Int) - (q.ready.length : Int) := by simp; omega
    rw [e]
    clear e he
    go_enter Try.func19, Try.ntmps19
    go_wp2_with fail
    go_quiet (fail)
    go_wp2_with fail
    go_ret
    exact ⟨rfl, _, rfl⟩
  · rw [he] at c7
    go_enter Try.func19, Try.ntmps19
    go_wp2_with fail
    go_ret
    exact ⟨by simp, 0, rfl⟩

/-- how many are held of the first so many -/
def heldN (l : List (Option UInt8)) (k : Nat) : Nat := (l.take k).countP fun o => o.isSome

theorem heldN_succ {l : List (Option UInt8)} {k : Nat} (hk : k < l.length) : heldN l (k + 1) = heldN l k + if (l[k]?.getD none).isSome then 1 else 0 := by
  unfold heldN
  rw [List.take_add_one, List.countP_append, List.getElem?_eq_getElem hk]
  simp [List.countP_cons]

theorem heldN_le (l : List (Option UInt8)) (k : Nat) : heldN l k ≤ k := by
  unfold heldN
  exact Nat.le_trans List.countP_le_length (by rw [List.length_take]; omega)

theorem rheld_any (h : RQ w B br bi bb bs q v) : Calls Try.prog 22 #[.pointer (some ⟨br, 0, none⟩)] w fun e w' => e = .returned (.int .i64 (q.held : Int)) ∧ w = w' := by
  have c3 := cell_of h.cells 3 _ rfl
  have hs2 := h.inv.size2
  have hlen := h.inv.len
  have hall : heldN q.h (q.size + 1) = q.held := by unfold heldN Q.held; rw [← hlen, List.take_length]
  rw [← hall]
  have F := Lib.hid h
  clear hall h
  go_enter Try.func22, Try.ntmps22
  go_wp2_with fail
  go_loop [3, 4] (fun a i => ∃ k : Nat, k ≤ q.size + 1 ∧ i = .int .i64 k ∧ a = .int .i64 (heldN q.h k : Nat)) (fun _ i => q.size + 1 - (intOf i).toNat)
  case atStart => exact ⟨0, Nat.zero_le _, rfl, by simp [heldN]⟩
  case round =>
    obtain ⟨k, hk, rfl, rfl⟩ := hrel
    by_cases hkl : k < q.size + 1
    · have ck := F.out.isAt hkl
      have hN := heldN_succ (l := q.h) (k := k) (by omega)
      have hle := heldN_le q.h k
      cases hg : (q.got k).isSome
      · have hg' : ((q.h[k]?).getD none).isSome = false := hg
        rw [hg'] at hN
        rw [hg] at ck
        go_wp2_with fail
        go_round
        case rel => exact ⟨k + 1, by omega, by go_num, by rw [hN]; rfl⟩
        case measure => simp [intOf]; omega
      · have hg' : ((q.h[k]?).getD none).isSome = true := hg
        rw [hg'] at hN
        rw [hg] at ck
        go_wp2_with fail
        go_round
        case rel => exact ⟨k + 1, by omega, by go_num, by rw [hN]; go_num⟩
        case measure => simp [intOf]; omega
    · have hk2 : k = q.size + 1 := by omega
      subst hk2
      go_wp2_with fail
      go_ret
      exact ⟨rfl, rfl⟩

theorem extract_list (l : List UInt8) (i j : Nat) : (⟨l.toArray⟩ : ByteArray).extract i j = ⟨((l.drop i).take (j - i)).toArray⟩ := by
  apply ByteArray.ext
  simp [ByteArray.data_extract]

def RReadPost (w : World) (B br bi bb : Nat) (bs : List UInt8) (q : Q) (v : Int) (m : Nat) (e : Ending) (w' : World) : Prop :=
  e = .returned (.string ⟨(q.ready.take m).toArray⟩) ∧ RQ w' B br bi bb bs (q.read m) v ∧ Fr (fun i => i = br) w w'

theorem rread_step (h : RQ w B br bi bb bs q v) (m : Nat) (s : ByteArray) (hs : s = ⟨(q.ready.drop m).toArray⟩) :
    RQ (w.setCell ⟨br, 2, none⟩ (.string s)) B br bi bb bs (q.read m) v ∧ Fr (fun i => i = br) w (w.setCell ⟨br, 2, none⟩ (.string s)) := by
  subst hs
  have f : Fr (fun i => i = br) w (w.setCell ⟨br, 2, none⟩ (.string ⟨(q.ready.drop m).toArray⟩)) := Fr.setCell (S := fun i => i = br) Fr.refl (.inl rfl) _
  exact ⟨⟨heap_set h.cells 2 _, f.keeps h.is (fun e => h.apart.2.2.2.1 e.symm), f.keeps h.b (fun e => h.apart.2.2.2.2.1 e.symm), h.len, h.got, h.endAt, h.apart, inv_read h.inv m⟩, f⟩

theorem rread_any (h : RQ w B br bi bb bs q v) (n0 : Int) : Calls Try.prog 14 #[.pointer (some ⟨br, 0, none⟩), .int .i64 n0] w (RReadPost w B br bi bb bs q v (takesN n0 q.ready.length)) := by
  have c2 := cell_of h.cells 2 _ rfl
  have f2 := frozen_of h.cells 2
  have F := Lib.hid h
  clear h
  generalize hl : q.ready.length = l at *
  have hsz : (⟨q.ready.toArray⟩ : ByteArray).size = l := by rw [← hl]; rfl
  have hcs : (n0 < 0 ∧ takesN n0 l = 0) ∨ (∃ k : Nat, n0 = (k : Int) ∧ k ≤ l ∧ takesN n0 l = k) ∨ ((l : Int) < n0 ∧ takesN n0 l = l) := by
    unfold takesN
    by_cases h1 : n0 < 0
    · exact .inl ⟨h1, by omega⟩
    · by_cases h2 : (l : Int) < n0
      · exact .inr (.inr ⟨h2, by omega⟩)
      · exact .inr (.inl ⟨n0.toNat, by omega, by omega, by omega⟩)
  rcases hcs with ⟨h1, h2⟩ | ⟨k, rfl, h1, h2⟩ | ⟨h1, h2⟩
  · rw [h2]
    clear h2
    go_enter Try.func14, Try.ntmps14
    go_wp2_with fail
    go_ret
    exact ⟨congrArg (fun x => Ending.returned (.string x)) (by rw [List.take_zero]; rfl), rread_step F.out 0 _ (by rw [extract_list]; simp [← hl])⟩
  · rw [h2]
    clear h2
    go_enter Try.func14, Try.ntmps14
    go_wp2_with fail
    go_ret
    exact ⟨congrArg (fun x => Ending.returned (.string x)) (by rw [extract_list]; simp), rread_step F.out k _ (by rw [extract_list, List.take_of_length_le (by rw [List.length_drop, hl]; omega)])⟩
  · rw [h2]
    clear h2
    go_enter Try.func14, Try.ntmps14
    go_wp2_with fail
    go_ret
    exact ⟨congrArg (fun x => Ending.returned (.string x)) (by rw [extract_list]; simp), rread_step F.out l _ (by simp [← hl]; rfl)⟩
end

theorem info4 : (Try.prog.info? 4).map (fun i => (i.zero, i.size, i.bytes)) = some (some (.bool false), 1, 1) := by kernel_rfl

theorem made_one (z : Value) (hz : z.cells = #[z]) (n : Nat) : madeCells z.cells (n * 1) = Array.replicate n z := by
  apply Array.ext'
  rw [hz, Nat.mul_one, toList_madeCells_one, Array.toList_replicate]

theorem make40 (n : Nat) (hn : n ≤ 65537) (W : World) : (Instr.makeSlice 40 (.int .i64 (n : Int)) (.int .i64 (n : Int))).run Try.prog W = .ok (.slice (some ⟨W.heap.size, 0, none⟩) n n) (W.alloc (.cells (Array.replicate n (.bool false)) 4)) := by
  obtain ⟨i0, hi, hz0, hz1, hz2⟩ := info_parts info4
  have h := run_makeSlice (P := Try.prog) W 40 4 i0 (.bool false) Try.underlying40 hi hz0 .i64 .i64 n n (by omega) (by omega) (by rw [hz1]; omega) (by rw [hz2]; omega) (by omega)
  rw [hz1, Int.toNat_natCast, made_one _ rfl] at h
  exact h

theorem make41 (n : Nat) (hn : n ≤ 65537) (W : World) : (Instr.makeSlice 41 (.int .i64 (n : Int)) (.int .i64 (n : Int))).run Try.prog W = .ok (.slice (some ⟨W.heap.size, 0, none⟩) n n) (W.alloc (.cells (Array.replicate n (.int .u8 0)) 5)) := by
  obtain ⟨i0, hi, hz0, hz1, hz2⟩ := info_parts info5
  have h := run_makeSlice (P := Try.prog) W 41 5 i0 (.int .u8 0) Try.underlying41 hi hz0 .i64 .i64 n n (by omega) (by omega) (by rw [hz1]; omega) (by rw [hz2]; omega) (by omega)
  rw [hz1, Int.toNat_natCast, made_one _ rfl] at h
  exact h

def RNewPost (w : World) (B next size : Nat) (e : Ending) (w' : World) : Prop :=
  ∃ br bi bb bs v, e = .returned (.pointer (some ⟨br, 0, none⟩)) ∧ RQ w' B br bi bb bs (Q.new next size) v ∧ Fr (fun _ => False) w w'

theorem at3 (w : World) (o1 o2 o3 : Obj) : (((w.alloc o1).alloc o2).alloc o3).heap[w.heap.size]? = some o1 ∧ (((w.alloc o1).alloc o2).alloc o3).heap[w.heap.size + 1]? = some o2 ∧ (((w.alloc o1).alloc o2).alloc o3).heap[w.heap.size + 1 + 1]? = some o3 := by
  simp only [World.alloc, Array.getElem?_push, Array.size_push]
  refine ⟨?_, ?_, ?_⟩
  · rw [if_neg (by omega), if_neg (by omega), if_pos trivial]
  · rw [if_neg (by omega), if_pos trivial]
  · rw [if_pos trivial]

theorem rnew_end {w W : World} {B next size br bi bb : Nat} (hn : next < M32) (h1 : 1 ≤ size) (h2 : size ≤ 65536) (hB : B ≤ w.heap.size) (f : Fr (fun _ => False) w W)
    (c1 : W.heap[br]? = some (.cells #[.int .u32 (next : Int), .int .i64 (size : Int), .string ⟨#[]⟩, .slice (some ⟨bi, 0, none⟩) (size + 1) (size + 1), .slice (some ⟨bb, 0, none⟩) (size + 1) (size + 1), .bool false, .int .i64 0, .bool false] 43 (0, 0)))
    (c2 : W.heap[bi]? = some (.cells (Array.replicate (size + 1) (.bool false)) 4 (0, 0))) (c3 : W.heap[bb]? = some (.cells (Array.replicate (size + 1) (.int .u8 0)) 5 (0, 0)))
    (hap : w.heap.size ≤ br ∧ w.heap.size ≤ bi ∧ w.heap.size ≤ bb ∧ br ≠ bi ∧ br ≠ bb ∧ bi ≠ bb) : RNewPost w B next size (.returned (.pointer (some ⟨br, 0, none⟩))) W := by
  refine ⟨br, bi, bb, List.replicate (size + 1) 0, 0, rfl, ⟨c1, ?_, ?_, by simp [Q.new], ?_, fun x hx => by simp [Q.new] at hx, ⟨by omega, by omega, by omega, hap.2.2.2⟩, inv_new hn h1 h2⟩, f⟩
  · rw [c2]; unfold boolsV Q.new; simp
  · rw [c3]; unfold bytesV; simp
  · intro i u hi
    exfalso
    unfold Q.got Q.new at hi
    simp only [List.getElem?_replicate] at hi
    split at hi <;> simp at hi

theorem rnew_any (w : World) (next size B : Nat) (hn : next < M32) (h1 : 1 ≤ size) (h2 : size ≤ 65536) (hB : B ≤ w.heap.size) :
    Calls Try.prog 12 #[.int .u32 (next : Int), .int .i64 (size : Int)] w (RNewPost w B next size) := by
  have m1 := make40 (size + 1) (by omega)
  have m2 := make41 (size + 1) (by omega)
  rw [show ((size + 1 : Nat) : Int) = (size : Int) + 1 by omega] at m1 m2
  have HE := Lib.hid (fun W br bi bb f c1 c2 c3 hap => rnew_end (w := w) (W := W) (br := br) (bi := bi) (bb := bb) hn h1 h2 hB f c1 c2 c3 hap)
  have HA := Lib.hid (at3 w)
  go_enter Try.func12, Try.ntmps12
  go_wp2_with fail
  go_region
  all_goals (go_wp2_with fail)
  all_goals go_ret
  all_goals first
    | exact HE.out _ _ _ _ ((((Fr.refl.alloc _).alloc _).alloc _).drew) (HA.out _ _ _).2.2 (HA.out _ _ _).1 (HA.out _ _ _).2.1 (by omega)
    | exact HE.out _ _ _ _ ((((Fr.refl.alloc _).alloc _).alloc _).drew) (HA.out _ _ _).2.2 (HA.out _ _ _).2.1 (HA.out _ _ _).1 (by omega)

end Go.Proofs.Ythcjmghdmcapeaa
