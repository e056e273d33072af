/- The document's acceptor (talariaref11, talariaref03). -/
import Derived.Test.YtlpnomejpaoeaaaMark
namespace Go.Proofs.Ytlpnomejpaoeaaa
set_option linter.unusedSimpArgs false
set_option linter.unusedVariables false
open Go.RowKit
set_option maxHeartbeats 400000
set_option maxRecDepth 20000

/-- The document's stamp of a ballot. -/
abbrev stampArr (b : Ballot) : Array Value := #[.int .u32 b.n, .int .u8 b.by_, .int .u8 0]
def stampVal (b : Ballot) : Int := b.n * 65536 + b.by_ * 256
theorem ref_value (b : Ballot) (hb : b.fits) (w : World) : Calls Try.prog 74 #[.agg (stampArr b)] w fun e w' => e = .returned (.int .u64 (stampVal b)) ∧ Below w.heap.size w w' := by
  obtain ⟨h1, h2⟩ := hb
  have q1 : IntKind.u64.wrap b.n = b.n := by simp [IntKind.wrap, IntKind.bits, IntKind.signed]; omega
  have q2 : IntKind.u64.wrap b.by_ = b.by_ := by simp [IntKind.wrap, IntKind.bits, IntKind.signed]; omega
  have q3 : IntKind.u64.wrap (b.n * 65536) = b.n * 65536 := by simp [IntKind.wrap, IntKind.bits, IntKind.signed]; omega
  have q4 : IntKind.u64.wrap (b.by_ * 256) = b.by_ * 256 := by simp [IntKind.wrap, IntKind.bits, IntKind.signed]; omega
  have q5 : IntKind.u64.wrap (b.n * 65536 + b.by_ * 256) = b.n * 65536 + b.by_ * 256 := by simp [IntKind.wrap, IntKind.bits, IntKind.signed]; omega
  go_enter Try.func74, Try.ntmps74
  go_wp2
  go_ret
  exact ⟨rfl, below_alloc _ _⟩
theorem stamp_below (a b : Ballot) (ha : a.fits) (hb : b.fits) : decide (stampVal a < stampVal b) = a.below b := by
  obtain ⟨a1, a2⟩ := ha
  obtain ⟨b1, b2⟩ := hb
  unfold stampVal Ballot.below
  rw [Bool.eq_iff_iff]
  simp only [decide_eq_true_eq, Bool.or_eq_true, Bool.and_eq_true, beq_iff_eq]
  omega
set_option maxHeartbeats 1000000 in
theorem ref_Less (a b : Ballot) (ha : a.fits) (hb : b.fits) (w : World) : Calls Try.prog 50 #[.agg (stampArr a), .agg (stampArr b)] w fun e w' => e = .returned (.bool (a.below b)) ∧ Below w.heap.size w w' := by
  rw [← stamp_below a b ha hb]
  have g0 : ((w.alloc (.cells (stampArr a) 65)).alloc (.cells (stampArr b) 65)).heap[w.heap.size]? = some (.cells (stampArr a) 65 (0, 0)) := alloc_old (alloc_new w _)
  have g1 : ((w.alloc (.cells (stampArr a) 65)).alloc (.cells (stampArr b) 65)).heap[w.heap.size + 1]? = some (.cells (stampArr b) 65 (0, 0)) := by
    have := alloc_new (w.alloc (.cells (stampArr a) 65)) (.cells (stampArr b) 65)
    simpa using this
  have hbW : Below w.heap.size w ((w.alloc (.cells (stampArr a) 65)).alloc (.cells (stampArr b) 65)) := pu_alloc (pu_alloc (pu_refl w) _) _
  have HbW := hid hbW
  have G0 := hid g0
  have G1 := hid g1
  clear hbW g0 g1
  go_enter Try.func50, Try.ntmps50
  go_wp2_with fail
  generalize hW : World.alloc (World.alloc w _) _ = W at *
  have d0 : W.cell? ⟨w.heap.size, 0, none⟩ = some (.int .u32 a.n) := by rw [cell_of G0.out]; rfl
  have d1 : W.cell? ⟨w.heap.size, 1, none⟩ = some (.int .u8 a.by_) := by rw [cell_of G0.out]; rfl
  have d2 : W.cell? ⟨w.heap.size, 2, none⟩ = some (.int .u8 0) := by rw [cell_of G0.out]; rfl
  have d3 : W.cell? ⟨w.heap.size + 1, 0, none⟩ = some (.int .u32 b.n) := by rw [cell_of G1.out]; rfl
  have d4 : W.cell? ⟨w.heap.size + 1, 1, none⟩ = some (.int .u8 b.by_) := by rw [cell_of G1.out]; rfl
  have d5 : W.cell? ⟨w.heap.size + 1, 2, none⟩ = some (.int .u8 0) := by rw [cell_of G1.out]; rfl
  go_region_held3 (fun w' => w'.cell? ⟨w.heap.size, 0, none⟩ = some (.int .u32 a.n) ∧ w'.cell? ⟨w.heap.size, 1, none⟩ = some (.int .u8 a.by_) ∧ w'.cell? ⟨w.heap.size, 2, none⟩ = some (.int .u8 0) ∧ w'.cell? ⟨w.heap.size + 1, 0, none⟩ = some (.int .u32 b.n) ∧ w'.cell? ⟨w.heap.size + 1, 1, none⟩ = some (.int .u8 b.by_) ∧ w'.cell? ⟨w.heap.size + 1, 2, none⟩ = some (.int .u8 0)) (first | (apply cell_keep6 <;> assumption) | go_keep) (first | (go_at_call 74; with_reducible refine Calls.mono (ref_value a ha _) ?_; rintro e w1 ⟨rfl, hk1⟩) | (go_at_call 74; with_reducible refine Calls.mono (ref_value b hb _) ?_; rintro e w2 ⟨rfl, hk2⟩))
  all_goals
    go_wp2
    go_ret
    exact ⟨rfl, pu_trans (pu_trans (pu_drew HbW.out) hk1) hk2⟩
end Go.Proofs.Ytlpnomejpaoeaaa
