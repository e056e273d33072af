/- '==' of entries. -/
import Derived.Test.YtlpnomejpaoeaaaFirst
import Derived.Laws.StructEq
namespace Go.Proofs.Ytlpnomejpaoeaaa
set_option linter.unusedSimpArgs false
set_option linter.unusedVariables false
open Go.RowKit
set_option maxHeartbeats 400000
set_option maxRecDepth 20000

theorem eq_mark (a b c d : Int) (n : Nat) (w : World) : (Op.equalIn (n + 2) 40 (.agg #[.int .u32 a, .int .u8 b]) (.agg #[.int .u32 c, .int .u8 d])).run Try.prog w = .ok (a == c && b == d) w := by
  have hS : Try.prog.underlying 40 = some (.struct (Try.prog.fieldsOf 40)) := by kernel_rfl
  have u1 := Try.underlying28
  have u2 := Try.underlying5
  rw [show n + 2 = (n + 1) + 1 from rfl, run_equalIn_agg w (n + 1) _ _ _ hS (by kernel_rfl)]
  simp only [Program.fieldsOf, Try.underlying40]
  go_simp
  by_cases h1 : a = c <;> by_cases h2 : b = d <;> simp [h1, h2]
theorem st_mark : StT Try.prog 40 2 := StT.mk' Try.underlying40 rfl (by kernel_rfl)
theorem eq_ballot (a b c d : Int) (n : Nat) (w : World) : (Op.equalIn (n + 3) 42 (.agg #[.int .u32 a, .int .u8 b]) (.agg #[.int .u32 c, .int .u8 d])).run Try.prog w = .ok (a == c && b == d) w := by
  have hS : Try.prog.underlying 42 = some (.struct (Try.prog.fieldsOf 42)) := by kernel_rfl
  have h1 := fun w => eq_mark a b c d n w
  have z := fun w => st_mark.sizeOf w
  have g := fun w => st_mark.agg w
  rw [show n + 3 = (n + 2) + 1 from rfl, run_equalIn_agg w (n + 2) _ _ _ hS (by kernel_rfl)]
  simp only [Program.fieldsOf, Try.underlying42]
  go_simp
  by_cases h1 : a = c <;> by_cases h2 : b = d <;> simp [h1, h2]
/-- Are two commands one? -/
def cmdEq (a b : Cmd) : Bool := a.kind == b.kind && (a.node == b.node && (a.life == b.life && (a.epoch == b.epoch && a.req == b.req)))
theorem eq_command (a b : Cmd) (n : Nat) (w : World) : (Op.equalIn (n + 2) 54 (.agg (cmdCells a)) (.agg (cmdCells b))).run Try.prog w = .ok (cmdEq a b) w := by
  have hS : Try.prog.underlying 54 = some (.struct (Try.prog.fieldsOf 54)) := by kernel_rfl
  have u1 := Try.underlying28
  have u2 := Try.underlying5
  rw [show n + 2 = (n + 1) + 1 from rfl, run_equalIn_agg w (n + 1) _ _ _ hS (by kernel_rfl)]
  simp only [Program.fieldsOf, Try.underlying54]
  go_simp
  unfold cmdEq
  by_cases h1 : a.kind = b.kind <;> by_cases h2 : a.node = b.node <;> by_cases h3 : a.life = b.life <;> by_cases h4 : a.epoch = b.epoch <;> by_cases h5 : a.req = b.req <;> simp [h1, h2, h3, h4, h5]
theorem st_command : StT Try.prog 54 5 := StT.mk' Try.underlying54 rfl (by kernel_rfl)
/-- Are two entries one? -/
def entEq (a b : Entry) : Bool := a.slot == b.slot && ((a.b.n == b.b.n && a.b.by_ == b.b.by_) && cmdEq a.c b.c)
set_option maxHeartbeats 1000000 in
theorem eq_entry (a b : Entry) (w : World) : (Op.equalIn 10000 58 (.agg (entCells a)) (.agg (entCells b))).run Try.prog w = .ok (entEq a b) w := by
  have hS : Try.prog.underlying 58 = some (.struct (Try.prog.fieldsOf 58)) := by kernel_rfl
  have u1 := Try.underlying28
  have h1 := fun w => eq_ballot a.b.n a.b.by_ b.b.n b.b.by_ 9996 w
  have h2 := fun w => eq_command a.c b.c 9997 w
  have z := fun w => st_ballot.sizeOf w
  have g := fun w => st_ballot.agg w
  have z2 := fun w => st_command.sizeOf w
  have g2 := fun w => st_command.agg w
  rw [show (10000 : Nat) = 9999 + 1 from rfl, run_equalIn_agg w 9999 _ _ _ hS (by kernel_rfl)]
  simp only [Program.fieldsOf, Try.underlying58]
  go_simp
  unfold entEq
  generalize cmdEq a.c b.c = q
  by_cases h1 : a.slot = b.slot <;> by_cases h2 : a.b.n = b.b.n <;> by_cases h3 : a.b.by_ = b.b.by_ <;> cases q <;> simp [h1, h2, h3]
theorem entEq_iff (a b : Entry) : entEq a b = true ↔ a = b := by
  obtain ⟨s, ⟨n, y⟩, ⟨k1, k2, k3, k4, k5⟩⟩ := a
  obtain ⟨s', ⟨n', y'⟩, ⟨q1, q2, q3, q4, q5⟩⟩ := b
  simp only [entEq, cmdEq, Bool.and_eq_true, beq_iff_eq, Entry.mk.injEq, Ballot.mk.injEq, Cmd.mk.injEq]
end Go.Proofs.Ytlpnomejpaoeaaa
