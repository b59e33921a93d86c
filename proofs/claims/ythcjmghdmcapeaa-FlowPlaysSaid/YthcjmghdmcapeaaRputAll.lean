/-
  The contract of the reference's Put, whole; and of the program's.
-/
import Derived.Test.YthcjmghdmcapeaaRputA
import Derived.Test.YthcjmghdmcapeaaRputB
import Derived.Test.YthcjmghdmcapeaaRputC
import Derived.Test.YthcjmghdmcapeaaRputD
import Derived.Test.YthcjmghdmcapeaaRputE
namespace Go.Proofs.Ythcjmghdmcapeaa
open Go.RowKit Go.Maps Go.ChangeShapes

theorem rput_any {w : World} {B br bi bb : Nat} {bs : List UInt8} {q : Q} {v : Int} (h : RQ w B br bi bb bs q v) (seq : Nat) (s : ByteArray) (fin : Bool) :
    Calls Try.prog 16 #[.pointer (some ⟨br, 0, none⟩), .int .u32 (seq : Int), .string s, .bool fin] w (RPutPost w B br bi bb q seq s.data.toList fin) := by
  cases he : q.ended with
  | true => exact rput_no h seq s fin (.inl he)
  | false =>
    rcases Nat.lt_or_ge 65536 s.size with hs | hs
    · exact rput_no h seq s fin (.inr hs)
    · cases fin with
      | false => exact rput_A h seq s he hs
      | true =>
        cases hend : q.e with
        | some x => exact rput_B h seq s he hs (by rw [hend]; rfl)
        | none =>
          cases hw : decide (q.pos ((seq + s.size) % M32) < q.win + 1) with
          | false => exact rput_C h seq s he hs hend hw
          | true =>
            cases hc : (q.putN seq s.data.toList s.size).clear (q.pos ((seq + s.size) % M32)) with
            | false => exact rput_D h seq s he hs hend hw hc
            | true => exact rput_E h seq s he hs hend hw hc

theorem fput_any {w : World} {B bq bm : Nat} {rv : Value} {q : Q} {D : Dm} {en : Nat} (h : FQ w B bq bm rv q D en) (hB : B ≤ w.heap.size) (seq : Nat) (s : ByteArray) (fin : Bool) :
    Calls Try.prog 15 #[.pointer (some ⟨bq, 0, none⟩), .int .u32 (seq : Int), .string s, .bool fin] w (PutPost w B bq bm rv q seq s.data.toList fin) := by
  cases he : q.ended with
  | true => exact fput_no h seq s fin (.inl he)
  | false =>
    rcases Nat.lt_or_ge 65536 s.size with hs | hs
    · exact fput_no h seq s fin (.inr hs)
    · exact fput_yes h hB seq s fin he hs

end Go.Proofs.Ythcjmghdmcapeaa
