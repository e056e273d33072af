/- view.Same, slices.Equal. -/
import Derived.Test.YtlpnomejpaoeaaaSame
namespace Go.Proofs.Ytlpnomejpaoeaaa
set_option linter.unusedSimpArgs false
set_option linter.unusedVariables false
open Go.RowKit
set_option maxHeartbeats 400000
set_option maxRecDepth 20000

theorem eq_lives (a0 a1 a2 a3 a4 a5 a6 a7 : Int) (W : World) : (Op.equalIn 10000 30 (.agg #[.int .u8 a0, .int .u8 a1, .int .u8 a2, .int .u8 a3, .int .u8 a4, .int .u8 a5, .int .u8 a6, .int .u8 a7]) (.agg #[.int .u8 a0, .int .u8 a1, .int .u8 a2, .int .u8 a3, .int .u8 a4, .int .u8 a5, .int .u8 a6, .int .u8 a7])).run Try.prog W = .ok true W := by
  have u3 := Try.underlying5
  have a3 := Try.isAgg5
  have z3 := Try.sizeOf5
  rw [show (10000 : Nat) = 9999 + 1 from rfl, Op.equalIn]
  simp only [Sem.run_bind, run_underlying Try.underlying30, Result.andThen_ok]
  simp only [Std.Legacy.Range.forIn_eq_forIn_range', Std.Legacy.Range.size, Nat.sub_zero, Nat.add_sub_cancel, Nat.div_one, List.range'_succ, List.range'_zero, List.forIn_cons, List.forIn_nil]
  go_simp

theorem eq_member (m : Member) (W : World) : (Op.equalIn 10000 61 (.agg #[.int .u8 m.node, .int .u8 m.life, .bool m.ready]) (.agg #[.int .u8 m.node, .int .u8 m.life, .bool m.ready])).run Try.prog W = .ok true W := by
  have hS : Try.prog.underlying 61 = some (.struct (Try.prog.fieldsOf 61)) := by kernel_rfl
  have u1 := Try.underlying5
  have u2 := Try.underlying4
  rw [show (10000 : Nat) = 9999 + 1 from rfl, run_equalIn_agg W 9999 _ _ _ hS (by kernel_rfl)]
  simp only [Program.fieldsOf, Try.underlying61]
  go_simp

set_option maxHeartbeats 1000000 in
theorem members_Equal (l : List Member) (v u : Value) (w : World) (hv : Rd w 3 v l.length (memCells l)) (hu : Rd w 3 u l.length (memCells l)) (hn : l.length ≤ 1000) :
    Calls Try.prog 51 #[v, u] w fun e w' => e = .returned (.bool true) ∧ Below w.heap.size w w' := by
  obtain ⟨p1, c1, rfl⟩ := hv.form
  obtain ⟨p2, c2, rfl⟩ := hu.form
  have Hv := hid hv
  have Hu := hid hu
  clear hv hu
  go_enter Try.func51, Try.ntmps51
  go_wp2_with fail
  go_loopw [13] (fun i wr => ∃ k : Nat, k ≤ l.length ∧ i = .int .i64 k ∧ Below w.heap.size w wr) (fun i _ => l.length - (intOf i).toNat)
  case atStart => exact ⟨0, by omega, rfl, Below.refl _ _⟩
  case round =>
    obtain ⟨k, hk, rfl, hbw⟩ := hrel
    by_cases hlt : k < l.length
    · have hlti : (k : Int) < l.length := by omega
      obtain ⟨g1, o1, rfl, hn1, hm1, hg1, hc1⟩ := Hv.out.place (by omega)
      obtain ⟨g2, o2, rfl, hn2, hm2, hg2, hc2⟩ := Hu.out.place (by omega)
      have d1 : ∀ i u, i < 3 → l[k].cells[i]? = some u → wr.cell? ⟨g1, o1 + k * 3 + i, none⟩ = some u := fun i u hi hu => by
        rw [hbw.cell (p := ⟨g1, o1 + k * 3 + i, none⟩) hg1, Nat.add_assoc]
        exact hc1 _ _ (by rw [memCells_at l k i hlt hi]; exact hu)
      have d2 : ∀ i u, i < 3 → l[k].cells[i]? = some u → wr.cell? ⟨g2, o2 + k * 3 + i, none⟩ = some u := fun i u hi hu => by
        rw [hbw.cell (p := ⟨g2, o2 + k * 3 + i, none⟩) hg2, Nat.add_assoc]
        exact hc2 _ _ (by rw [memCells_at l k i hlt hi]; exact hu)
      generalize l[k] = x at *
      have k0 : wr.cell? ⟨g1, o1 + k * 3, none⟩ = some (.int .u8 x.node) := d1 0 _ (by omega) rfl
      have k1 : wr.cell? ⟨g1, o1 + k * 3 + 1, none⟩ = some (.int .u8 x.life) := d1 1 _ (by omega) rfl
      have k2 : wr.cell? ⟨g1, o1 + k * 3 + 2, none⟩ = some (.bool x.ready) := d1 2 _ (by omega) rfl
      have q0 : wr.cell? ⟨g2, o2 + k * 3, none⟩ = some (.int .u8 x.node) := d2 0 _ (by omega) rfl
      have q1 : wr.cell? ⟨g2, o2 + k * 3 + 1, none⟩ = some (.int .u8 x.life) := d2 1 _ (by omega) rfl
      have q2 : wr.cell? ⟨g2, o2 + k * 3 + 2, none⟩ = some (.bool x.ready) := d2 2 _ (by omega) rfl
      have heq := fun W => eq_member x W
      clear d1 d2 hc1 hc2
      go_wp2_with fail
      go_quiet (fail)
      go_wp2_with fail
      go_roundw
      case rel => exact ⟨k + 1, by omega, by go_num, ⟨hbw.os, hbw.tape, hbw.output, hbw.size, hbw.block⟩⟩
      case measure => simp [intOf]; omega
    · go_wp2_with fail
      go_ret
      exact ⟨rfl, hbw⟩

theorem view_Same (x : View) (s u : Value) (w : World) (hs : Rd w 3 s x.members.length (memCells x.members)) (hu : Rd w 3 u x.members.length (memCells x.members)) (hn : x.members.length ≤ 1000) :
    Calls Try.prog 29 #[.agg (viewCells x s), .agg (viewCells x u)] w fun e w' => e = .returned (.bool true) ∧ Below w.heap.size w w' := by
  obtain ⟨p1, c1, rfl⟩ := hs.form
  obtain ⟨p2, c2, rfl⟩ := hu.form
  have Hs := hid hs
  have Hu := hid hu
  have heq := fun W => eq_lives (x.l 0) (x.l 1) (x.l 2) (x.l 3) (x.l 4) (x.l 5) (x.l 6) (x.l 7) W
  clear hs hu
  go_enter Try.func29, Try.ntmps29
  go_wp2_with fail
  refine (members_Equal x.members _ _ _ (Hs.out.below (pu_alloc (pu_alloc (pu_refl w) _) _)) (Hu.out.below (pu_alloc (pu_alloc (pu_refl w) _) _)) hn).mono ?_
  rintro e w1 ⟨rfl, hk1⟩
  go_wp2_with fail
  go_ret
  exact ⟨rfl, pu_trans (pu_alloc (pu_alloc (pu_refl w) _) _) hk1⟩
end Go.Proofs.Ytlpnomejpaoeaaa
