/- Package mark. -/
import Derived.Test.YtlpnomejpaoeaaaEntries
namespace Go.Proofs.Ytlpnomejpaoeaaa
set_option linter.unusedSimpArgs false
set_option linter.unusedVariables false
open Go.RowKit
set_option maxHeartbeats 400000
set_option maxRecDepth 20000

theorem Rd.drew {w : World} {size : Nat} {v : Value} {n : Nat} {xs : List Value} (h : Rd w size v n xs) : Rd w.drew size v n xs := h
theorem Own.drew {w : World} {e : TypeId} {size : Nat} {v : Value} {n : Nat} {xs : List Value} (h : Own w e size v n xs) : Own w.drew e size v n xs := h
/-- Is a ballot below another one? -/
def Ballot.below (a b : Ballot) : Bool := decide (a.n < b.n) || (a.n == b.n && decide (a.by_ < b.by_))
theorem mark_Below (a b : Ballot) (w : World) :
    Calls Try.prog 16 #[.agg #[.int .u32 a.n, .int .u8 a.by_], .agg #[.int .u32 b.n, .int .u8 b.by_]] w fun e w' => e = .returned (.bool (a.below b)) ∧ Below w.heap.size w w' := by
  have hB : ∀ o o' : Obj, Below w.heap.size w ((w.alloc o).alloc o') := fun o o' => pu_alloc (pu_alloc (pu_refl w) o) o'
  have HB := hid hB
  clear hB
  by_cases h1 : a.n < b.n
  · have hv : a.below b = true := by simp [Ballot.below, h1]
    have Hv := hid hv
    clear hv
    go_enter Try.func16, Try.ntmps16
    go_wp2
    go_ret
    exact ⟨by rw [Hv.out]; rfl, HB.out _ _⟩
  · have h1' : decide (a.n < b.n) = false := by simpa using h1
    by_cases h2 : (a.n == b.n) = true
    · have hv : a.below b = decide (a.by_ < b.by_) := by simp [Ballot.below, h1', h2]
      have Hv := hid hv
      clear hv
      go_enter Try.func16, Try.ntmps16
      go_wp2
      go_ret
      exact ⟨by rw [Hv.out]; rfl, HB.out _ _⟩
    · have h2' : (a.n == b.n) = false := by simpa using h2
      have hv : a.below b = false := by simp [Ballot.below, h1', h2']
      have Hv := hid hv
      clear hv
      go_enter Try.func16, Try.ntmps16
      go_wp2
      go_ret
      exact ⟨by rw [Hv.out]; rfl, HB.out _ _⟩

theorem mark_None (a : Ballot) (w : World) :
    Calls Try.prog 23 #[.agg #[.int .u32 a.n, .int .u8 a.by_]] w fun e w' => e = .returned (.bool (a.n == 0 && a.by_ == 0)) ∧ Below w.heap.size w w' := by
  go_enter Try.func23, Try.ntmps23
  go_wp2
  all_goals
    go_ret
    exact ⟨by simp [*], below_alloc _ _⟩

def Ballot.zero : Ballot := ⟨0, 0⟩
def highest (l : List Ballot) : Ballot := l.foldl (fun out b => if out.below b then b else out) Ballot.zero
theorem highest_snoc (l : List Ballot) (k : Nat) (h : k < l.length) : highest (l.take (k + 1)) = if (highest (l.take k)).below l[k] then l[k] else highest (l.take k) := by
  rw [List.take_succ_eq_append_getElem h]
  unfold highest
  rw [List.foldl_append]; rfl
def Ballot.cells (b : Ballot) : List Value := [.int .u32 b.n, .int .u8 b.by_]
def balCells (l : List Ballot) : List Value := l.flatMap Ballot.cells
theorem balCells_at (l : List Ballot) (k i : Nat) (hk : k < l.length) (hi : i < 2) : (balCells l)[k * 2 + i]? = l[k].cells[i]? := by
  induction l generalizing k with
  | nil => simp at hk
  | cons p l ih =>
    simp only [balCells, List.flatMap_cons] at ih ⊢
    cases k with
    | zero => rw [List.getElem?_append_left (by simp [Ballot.cells]; omega)]; simp
    | succ k =>
      rw [List.getElem?_append_right (by simp [Ballot.cells]; omega)]
      have : (k + 1) * 2 + i - p.cells.length = k * 2 + i := by simp [Ballot.cells]; omega
      rw [this, ih k (by simpa using hk)]
      simp

theorem st_ballot : StT Try.prog 42 2 := StT.mk' Try.underlying42 rfl (by kernel_rfl)
abbrev balArr (b : Ballot) : Array Value := #[.int .u32 b.n, .int .u8 b.by_]

set_option maxHeartbeats 1000000 in
theorem mark_Highest (l : List Ballot) (hl : l.length ≤ 1000) (v : Value) (w : World) (hv : Rd w 2 v l.length (balCells l)) :
    Calls Try.prog 81 #[v] w fun e w' => e = .returned (.agg (balArr (highest l))) ∧ Below w.heap.size w w' := by
  obtain ⟨p, cap, rfl⟩ := hv.form
  have Hv := hid hv
  clear hv
  go_enter Try.func81, Try.ntmps81
  go_wp2_with fail
  have hb0 : Below w.heap.size w ((w.alloc (.cells (balArr Ballot.zero) 42)).alloc (.cells (balArr Ballot.zero) 42)) := pu_alloc (pu_alloc (pu_refl w) _) _
  have h30 : ((w.alloc (.cells (balArr Ballot.zero) 42)).alloc (.cells (balArr Ballot.zero) 42)).heap[w.heap.size + 1]? = some (.cells (balArr Ballot.zero) 42 (0, 0)) := by
    have := alloc_new (w.alloc (.cells (balArr Ballot.zero) 42)) (.cells (balArr Ballot.zero) 42)
    simpa using this
  have h20 : ((w.alloc (.cells (balArr Ballot.zero) 42)).alloc (.cells (balArr Ballot.zero) 42)).heap[w.heap.size]? = some (.cells (balArr Ballot.zero) 42 (0, 0)) := alloc_old (alloc_new w _)
  go_loopw [8] (fun i wr => ∃ k : Nat, k ≤ l.length ∧ i = .int .i64 k ∧ wr.heap[w.heap.size + 1]? = some (.cells (balArr (highest (l.take k))) 42 (0, 0)) ∧ wr.heap[w.heap.size]? = some (.cells (balArr Ballot.zero) 42 (0, 0)) ∧ Below w.heap.size w wr) (fun i _ => l.length - (intOf i).toNat)
  case atStart => exact ⟨0, by omega, rfl, h30, h20, hb0⟩
  case round =>
    obtain ⟨k, hk, rfl, h3, h2, hb⟩ := hrel
    clear h30 h20 hb0
    by_cases hlt : k < l.length
    · obtain ⟨g, o, rfl, hnc, hcap, hg, hcell⟩ := Hv.out.place (by omega)
      have hc0 : wr.cell? ⟨g, o + k * 2, none⟩ = some (.int .u32 l[k].n) := by
        rw [hb.cell (p := ⟨g, o + k * 2, none⟩) hg]; exact hcell _ _ (by have := balCells_at l k 0 hlt (by omega); rw [Nat.add_zero] at this; rw [this]; rfl)
      have hc1 : wr.cell? ⟨g, o + k * 2 + 1, none⟩ = some (.int .u8 l[k].by_) := by
        rw [hb.cell (p := ⟨g, o + k * 2 + 1, none⟩) hg]; exact hcell _ _ (by rw [balCells_at l k 1 hlt (by omega)]; rfl)
      have Hsn := hid (highest_snoc l k hlt)
      have hd0 : wr.cell? ⟨w.heap.size + 1, 0, none⟩ = some (.int .u32 (highest (l.take k)).n) := by rw [cell_of h3]; rfl
      have hd1 : wr.cell? ⟨w.heap.size + 1, 1, none⟩ = some (.int .u8 (highest (l.take k)).by_) := by rw [cell_of h3]; rfl
      have hf0 := free_of h3 0
      have hf1 := free_of h3 1
      have hz := lt_of_block h3
      generalize l[k] = y at *
      generalize highest (l.take k) = out at *
      go_wp2_with fail
      refine (mark_Below out y _).mono ?_
      rintro e w1 ⟨rfl, hk1⟩
      have hk2 : Below wr.heap.size wr w1 := pu_trans (below_alloc _ _) hk1
      have h3' := (hk2.block _ hz).trans h3
      have h2' := (hk2.block _ (lt_of_block h2)).trans h2
      have h5' : w1.heap[wr.heap.size]? = some (.cells (balArr y) 42 (0, 0)) := (hk1.block _ (by simp)).trans (alloc_new _ _)
      have hbw := hb.trans (hk2.mono hb.size)
      clear hd0 hd1 hf0 hf1 hc0 hc1 hcell
      have hd0 : w1.cell? ⟨wr.heap.size, 0, none⟩ = some (.int .u32 y.n) := by rw [cell_of h5']; rfl
      have hd1 : w1.cell? ⟨wr.heap.size, 1, none⟩ = some (.int .u8 y.by_) := by rw [cell_of h5']; rfl
      have he0 : w1.cell? ⟨w.heap.size + 1, 0, none⟩ = some (.int .u32 out.n) := by rw [cell_of h3']; rfl
      have he1 : w1.cell? ⟨w.heap.size + 1, 1, none⟩ = some (.int .u8 out.by_) := by rw [cell_of h3']; rfl
      have hf0 := free_of h3' 0
      have hf1 := free_of h3' 1
      by_cases hlow : out.below y = true
      · rw [hlow]
        go_wp2
        go_roundw
        case rel => exact ⟨k + 1, by omega, by go_num, by
          rw [Hsn.out, if_pos hlow]
          have h4 := setCell_self (i := 1) (setCell_self (i := 0) h3' (.int .u32 y.n)) (.int .u8 y.by_)
          exact h4, setCell_other (setCell_other h2' (by omega) _) (by omega) _, pu_set (pu_set hbw (by simp) _) (by simp) _⟩
        case measure => simp [intOf]; omega
      · simp only [Bool.not_eq_true] at hlow
        rw [hlow]
        go_wp2
        go_roundw
        case rel => exact ⟨k + 1, by omega, by go_num, by
          rw [Hsn.out, if_neg (by rw [hlow]; simp)]
          exact h3', h2', hbw⟩
        case measure => simp [intOf]; omega
    · obtain rfl : k = l.length := by omega
      rw [List.take_length] at h3
      have hone : ∀ u ∈ (balArr (highest l)).toList, u.oneCell' = true := by
        intro u hu
        simp only [balArr, List.mem_cons, List.not_mem_nil, or_false] at hu
        rcases hu with rfl | rfl <;> rfl
      go_wp2_with (first | (refine wpList_ld rfl _ rfl st_ballot (w.heap.size + 1) 0 (balArr (highest l)).toList rfl rfl (row_cells h3) ?_) | (refine wpList_st rfl _ _ rfl st_ballot w.heap.size 0 (balArr (highest l)) rfl rfl rfl hone _ _ h2 (Nat.le_refl _) ?_; intro W4 h4 hk4))
      replace h4 : W4.heap[w.heap.size]? = some (.cells (balArr (highest l)) 42 (0, 0)) := h4
      refine bodyPost_ret (v := .agg (balArr (highest l))) (results_cell_row Try.results81 _ _ w.heap.size _ _ _ _ rfl h4 Try.underlying42 rfl (by kernel_rfl)) rfl ⟨rfl, ?_⟩
      exact ⟨hk4.os.trans hb.os, hk4.tape.trans hb.tape, hk4.output.trans hb.output, Nat.le_trans hb.size hk4.size, fun i hi => (hk4.block i (Nat.lt_of_lt_of_le hi hb.size) (by omega)).trans (hb.block i hi)⟩
end Go.Proofs.Ytlpnomejpaoeaaa
