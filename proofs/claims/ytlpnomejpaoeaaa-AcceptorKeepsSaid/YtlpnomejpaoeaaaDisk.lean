/- Package disk. -/
import Derived.Test.YtlpnomejpaoeaaaViewed
namespace Go.Proofs.Ytlpnomejpaoeaaa
set_option linter.unusedSimpArgs false
set_option linter.unusedVariables false
open Go.RowKit
set_option maxHeartbeats 400000
set_option maxRecDepth 20000

/-- A disk in its block. -/
def DiskAt (w : World) (d : Nat) (s : Bytes) (lasts : Int) (off : Bool) : Prop := w.heap[d]? = some (.cells #[str s, .int .i64 lasts, .bool off] 80 (0, 0))
theorem DiskAt.facts {w : World} {d : Nat} {s : Bytes} {lasts : Int} {off : Bool} (h : DiskAt w d s lasts off) :
    w.cell? ⟨d, 0, none⟩ = some (str s) ∧ w.cell? ⟨d, 1, none⟩ = some (.int .i64 lasts) ∧ w.cell? ⟨d, 2, none⟩ = some (.bool off) ∧ w.frozen? ⟨d, 0, none⟩ = false ∧ w.frozen? ⟨d, 1, none⟩ = false ∧ w.frozen? ⟨d, 2, none⟩ = false :=
  ⟨by rw [cell_of h]; rfl, by rw [cell_of h]; rfl, by rw [cell_of h]; rfl, free_of h _, free_of h _, free_of h _⟩
theorem DiskAt.kept {S : Nat → Prop} {w w' : World} {d : Nat} {s : Bytes} {lasts : Int} {off : Bool} (h : DiskAt w d s lasts off) (hk : Kp S w w') (hS : ¬ S d) : DiskAt w' d s lasts off := hk.heap h hS
theorem DiskAt.below {w w' : World} {d : Nat} {s : Bytes} {lasts : Int} {off : Bool} (h : DiskAt w d s lasts off) (hb : Below w.heap.size w w') : DiskAt w' d s lasts off := (hb.block d (lt_of_block h)).trans h
theorem DiskAt.lt {w : World} {d : Nat} {s : Bytes} {lasts : Int} {off : Bool} (h : DiskAt w d s lasts off) : d < w.heap.size := lt_of_block h
theorem DiskAt.setS {w : World} {d : Nat} {s : Bytes} {lasts : Int} {off : Bool} (h : DiskAt w d s lasts off) (t : Bytes) : DiskAt (w.setCell ⟨d, 0, none⟩ (str t)) d t lasts off := by
  simpa [DiskAt] using setCell_self (i := 0) h (str t)
theorem DiskAt.setL {w : World} {d : Nat} {s : Bytes} {lasts : Int} {off : Bool} (h : DiskAt w d s lasts off) (t : Int) : DiskAt (w.setCell ⟨d, 1, none⟩ (.int .i64 t)) d s t off := by
  simpa [DiskAt] using setCell_self (i := 1) h (.int .i64 t)
theorem DiskAt.setO {w : World} {d : Nat} {s : Bytes} {lasts : Int} {off : Bool} (h : DiskAt w d s lasts off) (t : Bool) : DiskAt (w.setCell ⟨d, 2, none⟩ (.bool t)) d s lasts t := by
  simpa [DiskAt] using setCell_self (i := 2) h (.bool t)

theorem disk_New (w : World) :
    Calls Try.prog 7 #[] w fun e w' => e = .returned (rptr w.heap.size) ∧ w.alloc (.cells #[str [], .int .i64 0, .bool false] 80) = w' := by
  go_enter Try.func7, Try.ntmps7
  go_wp2
  go_ret
  exact ⟨rfl, rfl⟩

theorem disk_ready (d : Nat) (s : Bytes) (lasts : Int) (off : Bool) (w : World) (h : DiskAt w d s lasts off) :
    Calls Try.prog 48 #[rptr d] w fun e w' => e = .returned (.int .i64 (if off then 10 else 0)) ∧ w = w' := by
  obtain ⟨h0, h1, h2, -, -, -⟩ := h.facts
  cases off
  all_goals
    go_enter Try.func48, Try.ntmps48
    go_wp2
    go_ret
    exact ⟨rfl, rfl⟩

theorem disk_keep (d : Nat) (s : Bytes) (lasts : Int) (off : Bool) (n : Nat) (w : World) (h : DiskAt w d s lasts off) (hn : n ≤ s.length) (hs : s.length ≤ 1048576) :
    Calls Try.prog 49 #[rptr d, .int .i64 n] w fun e w' => e = .returned (.tuple #[]) ∧ DiskAt w' d (s.take n) n off ∧ Only d w w' := by
  obtain ⟨h0, h1, -, f0, f1, -⟩ := h.facts
  have H := hid h
  clear h
  go_enter Try.func49, Try.ntmps49
  go_wp2
  go_end0
  refine ⟨rfl, ?_, ?_⟩
  · rw [str_pre]
    exact (H.out.setS _).setL _
  · (repeat (first | exact Kp.refl _ _ | assumption | refine Kp.alloc ?_ _ | refine Kp.drew ?_ | refine Kp.drewN ?_ _ | refine Kp.setCell ?_ (by simp; try omega) _ | (apply Kp.trans; rotate_left; assumption) | (refine Kp.trans ?_ (Kp.of_below (by assumption)))))

theorem disk_Read (d : Nat) (s : Bytes) (lasts : Int) (off : Bool) (w : World) (h : DiskAt w d s lasts off) :
    Calls Try.prog 52 #[rptr d] w fun e w' => e = .returned (.tuple #[if off then str [] else str s, .int .i64 (if off then 10 else 0)]) ∧ w = w' := by
  obtain ⟨h0, h1, h2, -, -, -⟩ := h.facts
  cases off
  all_goals
    go_enter Try.func52, Try.ntmps52
    go_wp2_with fail
    refine (disk_ready d s lasts _ _ h).mono ?_
    rintro e w' ⟨rfl, rfl⟩
    go_wp2
    go_ret2
    exact ⟨rfl, rfl⟩

theorem disk_Append (d : Nat) (s t : Bytes) (lasts : Int) (w : World) (h : DiskAt w d s lasts false) (hs : s.length + t.length ≤ 1048576) :
    Calls Try.prog 56 #[rptr d, str t] w fun e w' => e = .returned (.int .i64 0) ∧ DiskAt w' d (s ++ t) lasts false ∧ Only d w w' := by
  obtain ⟨h0, h1, h2, f0, -, -⟩ := h.facts
  go_enter Try.func56, Try.ntmps56
  go_wp2_with fail
  refine (disk_ready d s lasts _ _ h).mono ?_
  rintro e w' ⟨rfl, rfl⟩
  have H := hid h
  clear h
  go_wp2
  go_ret
  refine ⟨rfl, ?_, only_set _ _ _ _⟩
  rw [ByteArray.mk_append_mk]
  exact H.out.setS _
theorem disk_Append_off (d : Nat) (s t : Bytes) (lasts : Int) (w : World) (h : DiskAt w d s lasts true) :
    Calls Try.prog 56 #[rptr d, str t] w fun e w' => e = .returned (.int .i64 10) ∧ w = w' := by
  obtain ⟨h0, h1, h2, f0, -, -⟩ := h.facts
  go_enter Try.func56, Try.ntmps56
  go_wp2_with fail
  refine (disk_ready d s lasts _ _ h).mono ?_
  rintro e w' ⟨rfl, rfl⟩
  go_wp2
  go_ret
  exact ⟨rfl, rfl⟩
theorem disk_Append_full (d : Nat) (s t : Bytes) (lasts : Int) (w : World) (h : DiskAt w d s lasts false) (hs : 1048576 < s.length + t.length) (hs2 : s.length ≤ 1048576) (ht : t.length ≤ 1048576) :
    Calls Try.prog 56 #[rptr d, str t] w fun e w' => e = .returned (.int .i64 6) ∧ w = w' := by
  obtain ⟨h0, h1, h2, f0, -, -⟩ := h.facts
  go_enter Try.func56, Try.ntmps56
  go_wp2_with fail
  refine (disk_ready d s lasts _ _ h).mono ?_
  rintro e w' ⟨rfl, rfl⟩
  go_wp2
  go_ret
  exact ⟨rfl, rfl⟩

theorem disk_Sync (d : Nat) (s : Bytes) (lasts : Int) (w : World) (h : DiskAt w d s lasts false) :
    Calls Try.prog 58 #[rptr d] w fun e w' => e = .returned (.int .i64 0) ∧ DiskAt w' d s s.length false ∧ Only d w w' := by
  obtain ⟨h0, h1, h2, f0, f1, -⟩ := h.facts
  go_enter Try.func58, Try.ntmps58
  go_wp2_with fail
  refine (disk_ready d s lasts _ _ h).mono ?_
  rintro e w' ⟨rfl, rfl⟩
  have H := hid h
  clear h
  go_wp2
  go_ret
  exact ⟨rfl, H.out.setL _, only_set _ _ _ _⟩

theorem disk_Cut (d : Nat) (s : Bytes) (lasts : Int) (n : Nat) (w : World) (h : DiskAt w d s lasts false) (hn : n ≤ s.length) (hs : s.length ≤ 1048576) :
    Calls Try.prog 54 #[rptr d, .int .i64 n] w fun e w' => e = .returned (.int .i64 0) ∧ DiskAt w' d (s.take n) n false ∧ Only d w w' := by
  obtain ⟨h0, h1, h2, f0, f1, -⟩ := h.facts
  go_enter Try.func54, Try.ntmps54
  go_wp2_with fail
  refine (disk_ready d s lasts _ _ h).mono ?_
  rintro e w' ⟨rfl, rfl⟩
  have H := hid h
  clear h
  go_wp2_with fail
  refine (disk_keep d s lasts _ n _ H.out hn hs).mono ?_
  rintro e w' ⟨rfl, h', hk⟩
  go_wp2
  go_ret
  exact ⟨rfl, h', hk⟩

theorem disk_Start (d : Nat) (s : Bytes) (lasts : Int) (off : Bool) (w : World) (h : DiskAt w d s lasts off) :
    Calls Try.prog 21 #[rptr d] w fun e w' => e = .returned (.tuple #[]) ∧ DiskAt w' d s lasts false ∧ Only d w w' := by
  obtain ⟨h0, h1, h2, f0, f1, f2⟩ := h.facts
  have H := hid h
  clear h
  go_enter Try.func21, Try.ntmps21
  go_wp2
  go_end0
  exact ⟨rfl, H.out.setO _, only_set _ _ _ _⟩

theorem disk_Wipe (d : Nat) (s : Bytes) (lasts : Int) (off : Bool) (w : World) (h : DiskAt w d s lasts off) (hs : s.length ≤ 1048576) :
    Calls Try.prog 22 #[rptr d] w fun e w' => e = .returned (.tuple #[]) ∧ DiskAt w' d [] 0 off ∧ Only d w w' := by
  go_enter Try.func22, Try.ntmps22
  go_wp2_with fail
  refine (disk_keep d s lasts _ 0 _ h (by omega) hs).mono ?_
  rintro e w' ⟨rfl, h', hk⟩
  go_wp2
  go_end0
  exact ⟨rfl, h', hk⟩

/-- The power fails, all that is there lasting. -/
theorem disk_Crash (d : Nat) (s : Bytes) (keep : Int) (hk0 : -9223372036854775808 ≤ keep) (hk1 : keep ≤ 9223372036854775807) (w : World) (h : DiskAt w d s s.length false) (hs : s.length ≤ 1048576) :
    Calls Try.prog 20 #[rptr d, .int .i64 keep] w fun e w' => e = .returned (.tuple #[]) ∧ DiskAt w' d s s.length true ∧ Only d w w' := by
  obtain ⟨h0, h1, h2, f0, f1, f2⟩ := h.facts
  go_enter Try.func20, Try.ntmps20
  go_wp2_with fail
  refine (disk_ready d s s.length _ _ h).mono ?_
  rintro e w' ⟨rfl, rfl⟩
  have H := hid h
  clear h
  go_wp2_with fail
  have hsub : IntKind.i64.wrap ((s.length : Int) - (s.length : Int)) = 0 := by rw [IntKind.wrap_i64]; omega
  have hw0 : IntKind.i64.wrap 0 = 0 := by rw [IntKind.wrap_i64]; omega
  have hwl : IntKind.i64.wrap (s.length : Int) = (s.length : Int) := by rw [IntKind.wrap_i64]; omega
  rcases (show keep < 0 ∨ (¬ keep < 0 ∧ 0 < keep) ∨ keep = 0 by omega) with hk2 | ⟨hk2, hk3⟩ | hk2
  · go_region_held3 (fun w' => w'.cell? ⟨d, 0, none⟩ = some (str s) ∧ w'.cell? ⟨d, 1, none⟩ = some (.int .i64 s.length)) (first | exact ⟨g0, g1⟩ | go_keep) (first | (go_at_call 49; refine (disk_keep d s s.length _ s.length _ (show DiskAt w.drew d s s.length false from H.out) (Nat.le_refl _) hs).mono ?_; rintro e w1 ⟨rfl, h', hk⟩; obtain ⟨g0, g1, g2, q0, q1, q2⟩ := h'.facts; rw [List.take_length] at h' g0) | fail)
    have h' : DiskAt w1 d s s.length false := by assumption
    obtain ⟨g0, g1, g2, q0, q1, q2⟩ := h'.facts
    have H' := hid h'
    clear h'
    go_wp2
    go_end0
    refine ⟨rfl, H'.out.setO _, ?_⟩
    refine Kp.setCell (S := fun k => k = d) (p := ⟨d, 2, none⟩) ?_ (fun _ => rfl) _
    exact (Kp.refl _ w).drew.trans hk
  · go_region_held3 (fun w' => w'.cell? ⟨d, 0, none⟩ = some (str s) ∧ w'.cell? ⟨d, 1, none⟩ = some (.int .i64 s.length)) (first | exact ⟨g0, g1⟩ | go_keep) (first | (go_at_call 49; refine (disk_keep d s s.length _ s.length _ (show DiskAt w.drew d s s.length false from H.out) (Nat.le_refl _) hs).mono ?_; rintro e w1 ⟨rfl, h', hk⟩; obtain ⟨g0, g1, g2, q0, q1, q2⟩ := h'.facts; rw [List.take_length] at h' g0) | fail)
    have h' : DiskAt w1 d s s.length false := by assumption
    obtain ⟨g0, g1, g2, q0, q1, q2⟩ := h'.facts
    have H' := hid h'
    clear h'
    go_wp2
    go_end0
    refine ⟨rfl, H'.out.setO _, ?_⟩
    refine Kp.setCell (S := fun k => k = d) (p := ⟨d, 2, none⟩) ?_ (fun _ => rfl) _
    exact (Kp.refl _ w).drew.trans hk
  · subst hk2
    go_region_held3 (fun w' => w'.cell? ⟨d, 0, none⟩ = some (str s) ∧ w'.cell? ⟨d, 1, none⟩ = some (.int .i64 s.length)) (first | exact ⟨g0, g1⟩ | go_keep) (first | (go_at_call 49; refine (disk_keep d s s.length _ s.length _ (show DiskAt w.drew d s s.length false from H.out) (Nat.le_refl _) hs).mono ?_; rintro e w1 ⟨rfl, h', hk⟩; obtain ⟨g0, g1, g2, q0, q1, q2⟩ := h'.facts; rw [List.take_length] at h' g0) | fail)
    have h' : DiskAt w1 d s s.length false := by assumption
    obtain ⟨g0, g1, g2, q0, q1, q2⟩ := h'.facts
    have H' := hid h'
    clear h'
    go_wp2
    go_end0
    refine ⟨rfl, H'.out.setO _, ?_⟩
    refine Kp.setCell (S := fun k => k = d) (p := ⟨d, 2, none⟩) ?_ (fun _ => rfl) _
    exact (Kp.refl _ w).drew.trans hk
end Go.Proofs.Ytlpnomejpaoeaaa
