/- The document's acceptor: its entries. -/
import Derived.Test.YtlpnomejpaoeaaaRef
namespace Go.Proofs.Ytlpnomejpaoeaaa
set_option linter.unusedSimpArgs false
set_option linter.unusedVariables false
open Go.RowKit
set_option maxHeartbeats 400000
set_option maxRecDepth 20000

/-- The document's entry: its slot, its ballot, its command's number. -/
structure REnt where
  slot : Int
  b : Ballot
  c : Int
abbrev rentArr (x : REnt) : Array Value := #[.int .u32 x.slot, .int .u32 x.b.n, .int .u8 x.b.by_, .int .u8 0, .int .u32 x.c]
def rentCells (l : List REnt) : List Value := l.flatMap fun x => (rentArr x).toList
theorem rentCells_length (l : List REnt) : (rentCells l).length = l.length * 5 := by
  induction l with
  | nil => rfl
  | cons x l ih =>
    have : ((rentArr x).toList).length = 5 := rfl
    simp only [rentCells, List.flatMap_cons, List.length_append, List.length_cons, List.length_nil] at ih ⊢; omega
theorem rentCells_at (l : List REnt) (k i : Nat) (hk : k < l.length) (hi : i < 5) : (rentCells l)[k * 5 + i]? = (rentArr l[k]).toList[i]? := by
  induction l generalizing k with
  | nil => simp at hk
  | cons p l ih =>
    have h5 : ((rentArr p).toList).length = 5 := rfl
    simp only [rentCells, List.flatMap_cons] at ih ⊢
    cases k with
    | zero => rw [List.getElem?_append_left (by simp; omega)]; simp
    | succ k =>
      rw [List.getElem?_append_right (by simp; omega)]
      have : (k + 1) * 5 + i - ((rentArr p).toList).length = k * 5 + i := by rw [h5]; omega
      rw [this, ih k (by simpa using hk)]
      rfl
theorem rentCells_one (l : List REnt) : ∀ u ∈ rentCells l, u.oneCell' = true := by
  intro u hu
  simp only [rentCells, List.mem_flatMap] at hu
  obtain ⟨x, _, hx⟩ := hu
  simp only [rentArr, List.mem_cons, List.not_mem_nil, or_false] at hx
  rcases hx with rfl | rfl | rfl | rfl | rfl <;> rfl
theorem sl_rents : SlT Try.prog 66 113 5 16 := ⟨Try.underlying66, by kernel_rfl, by decide⟩
end Go.Proofs.Ytlpnomejpaoeaaa
