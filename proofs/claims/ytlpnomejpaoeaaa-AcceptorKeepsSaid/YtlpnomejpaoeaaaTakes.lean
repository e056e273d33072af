/- Package acceptor: what the readers of records read. -/
import Derived.Test.YtlpnomejpaoeaaaReader
namespace Go.Proofs.Ytlpnomejpaoeaaa
set_option linter.unusedSimpArgs false
set_option linter.unusedVariables false
open Go.RowKit
set_option maxHeartbeats 400000
set_option maxRecDepth 20000

theorem rd_num (n : Int) (k : Nat) (hk1 : 1 ≤ k) (hk7 : k ≤ 7) (h0 : 0 ≤ n) (hn : n < 256 ^ k) (t : Bytes) (ht : t.length ≤ 1000000) (r : Nat) (w : World) (h : RdrAt w r (beBytes n k ++ t) 0) :
    Calls Try.prog 64 #[rptr r, .int .i64 k] w fun en w' => en = .returned (.int .u64 n) ∧ RdrAt w' r t 0 ∧ Only r w w' := by
  have h1 : (beBytes n k ++ t).take k = beBytes n k := by rw [List.take_append_of_le_length (by rw [beBytes_length]; omega), List.take_of_length_le (by rw [beBytes_length]; omega)]
  have h2 : (beBytes n k ++ t).drop k = t := by rw [List.drop_append_of_le_length (by rw [beBytes_length]; omega), List.drop_of_length_le (by rw [beBytes_length]; omega)]; rfl
  have := octet_ReaderNum r _ k hk1 hk7 w h (by simp [beBytes_length]) (by simp [beBytes_length]; omega)
  rwa [h1, h2, beVal_be' n k h0 hn] at this
theorem rd_num1 (n : Int) (hn : 0 ≤ n ∧ n < 256) (t : Bytes) (ht : t.length ≤ 1000000) (r : Nat) (w : World) (h : RdrAt w r (beBytes n 1 ++ t) 0) :
    Calls Try.prog 64 #[rptr r, .int .i64 1] w fun en w' => en = .returned (.int .u64 n) ∧ RdrAt w' r t 0 ∧ Only r w w' :=
  rd_num n 1 (by omega) (by omega) hn.1 (by simpa using hn.2) t ht r w h
theorem rd_num4 (n : Int) (hn : 0 ≤ n ∧ n < 4294967296) (t : Bytes) (ht : t.length ≤ 1000000) (r : Nat) (w : World) (h : RdrAt w r (beBytes n 4 ++ t) 0) :
    Calls Try.prog 64 #[rptr r, .int .i64 4] w fun en w' => en = .returned (.int .u64 n) ∧ RdrAt w' r t 0 ∧ Only r w w' :=
  rd_num n 4 (by omega) (by omega) hn.1 (by simpa using hn.2) t ht r w h
theorem rd_num2 (n : Int) (hn : 0 ≤ n ∧ n < 65536) (t : Bytes) (ht : t.length ≤ 1000000) (r : Nat) (w : World) (h : RdrAt w r (beBytes n 2 ++ t) 0) :
    Calls Try.prog 64 #[rptr r, .int .i64 2] w fun en w' => en = .returned (.int .u64 n) ∧ RdrAt w' r t 0 ∧ Only r w w' :=
  rd_num n 2 (by omega) (by omega) hn.1 (by simpa using hn.2) t ht r w h

theorem acceptor_ballot (b : Ballot) (hb : b.fits) (t : Bytes) (ht : t.length ≤ 900000) (r : Nat) (w : World) (h : RdrAt w r (beBytes b.n 4 ++ (beBytes b.by_ 1 ++ t)) 0) :
    Calls Try.prog 66 #[rptr r] w fun en w' => en = .returned (.agg #[.int .u32 b.n, .int .u8 b.by_]) ∧ RdrAt w' r t 0 ∧ Only r w w' := by
  obtain ⟨h1, h2⟩ := hb
  have hr0 := h.lt
  have H := hid (h.below (below_alloc w (.cells #[.int .u32 0, .int .u8 0] 42)))
  clear h
  go_enter Try.func66, Try.ntmps66
  go_wp2_with fail
  refine (rd_num4 _ h1 _ (by simp [beBytes_length]; omega) _ _ H.out).mono ?_
  rintro e w1 ⟨rfl, hr1, hk1⟩
  go_wp2_with fail
  refine (rd_num1 _ h2 _ (by omega) _ _ hr1).mono ?_
  rintro e w2 ⟨rfl, hr2, hk2⟩
  have hk := hk1.trans hk2
  have hne : ¬ w.heap.size = r := by omega
  have hx := new_kept hk hne
  have hc0 : w2.cell? ⟨w.heap.size, 0, none⟩ = some (.int .u32 0) := by rw [cell_of hx]; rfl
  have hc1 : w2.cell? ⟨w.heap.size, 1, none⟩ = some (.int .u8 0) := by rw [cell_of hx]; rfl
  have hf0 := free_of hx 0
  have hf1 := free_of hx 1
  go_wp2
  refine bodyPost_ret (v := .agg #[.int .u32 b.n, .int .u8 b.by_]) (by simp [results, Try.results66, go_sem, hc0, hc1, hf0, hf1]) rfl ⟨rfl, ?_, ?_⟩
  · exact (hr2.kept (only_set _ w.heap.size 0 _) (by omega)).kept (only_set _ w.heap.size 1 _) (by omega)
  · (repeat (first | exact Kp.refl _ _ | assumption | refine Kp.alloc ?_ _ | refine Kp.drew ?_ | refine Kp.drewN ?_ _ | refine Kp.setCell ?_ (by simp; try omega) _ | (apply Kp.trans; rotate_left; assumption) | (refine Kp.trans ?_ (Kp.of_below (by assumption)))))

def cmdBytes (c : Cmd) : Bytes := beBytes c.kind 1 ++ (beBytes c.node 1 ++ (beBytes c.life 1 ++ (beBytes c.epoch 4 ++ beBytes c.req 4)))
set_option maxHeartbeats 1000000 in
theorem acceptor_command (c : Cmd) (hc : c.fits) (t : Bytes) (ht : t.length ≤ 900000) (r : Nat) (w : World) (h : RdrAt w r (cmdBytes c ++ t) 0) :
    Calls Try.prog 68 #[rptr r] w fun en w' => en = .returned (.agg #[.int .u8 c.kind, .int .u8 c.node, .int .u8 c.life, .int .u32 c.epoch, .int .u32 c.req]) ∧ RdrAt w' r t 0 ∧ Only r w w' := by
  obtain ⟨h1, h2, h3, h4, h5⟩ := hc
  have hr0 := h.lt
  have hb := h.below (below_alloc w (.cells #[.int .u8 0, .int .u8 0, .int .u8 0, .int .u32 0, .int .u32 0] 54))
  simp only [cmdBytes, List.append_assoc] at hb
  have H := hid hb
  clear h hb
  go_enter Try.func68, Try.ntmps68
  go_wp2_with fail
  refine (rd_num1 _ h1 _ (by simp [beBytes_length]; omega) _ _ H.out).mono ?_
  rintro e w1 ⟨rfl, hr1, hk1⟩
  go_wp2_with fail
  refine (rd_num1 _ h2 _ (by simp [beBytes_length]; omega) _ _ hr1).mono ?_
  rintro e w2 ⟨rfl, hr2, hk2⟩
  go_wp2_with fail
  refine (rd_num1 _ h3 _ (by simp [beBytes_length]; omega) _ _ hr2).mono ?_
  rintro e w3 ⟨rfl, hr3, hk3⟩
  go_wp2_with fail
  refine (rd_num4 _ h4 _ (by simp [beBytes_length]; omega) _ _ hr3).mono ?_
  rintro e w4 ⟨rfl, hr4, hk4⟩
  go_wp2_with fail
  refine (rd_num4 _ h5 _ (by omega) _ _ hr4).mono ?_
  rintro e w5 ⟨rfl, hr5, hk5⟩
  have hk := (((hk1.trans hk2).trans hk3).trans hk4).trans hk5
  have hne : ¬ w.heap.size = r := by omega
  have hx := new_kept hk hne
  have hc0 : w5.cell? ⟨w.heap.size, 0, none⟩ = some (.int .u8 0) := by rw [cell_of hx]; rfl
  have hc1 : w5.cell? ⟨w.heap.size, 1, none⟩ = some (.int .u8 0) := by rw [cell_of hx]; rfl
  have hc2 : w5.cell? ⟨w.heap.size, 2, none⟩ = some (.int .u8 0) := by rw [cell_of hx]; rfl
  have hc3 : w5.cell? ⟨w.heap.size, 3, none⟩ = some (.int .u32 0) := by rw [cell_of hx]; rfl
  have hc4 : w5.cell? ⟨w.heap.size, 4, none⟩ = some (.int .u32 0) := by rw [cell_of hx]; rfl
  have hf0 := free_of hx 0
  have hf1 := free_of hx 1
  have hf2 := free_of hx 2
  have hf3 := free_of hx 3
  have hf4 := free_of hx 4
  go_wp2
  refine bodyPost_ret (v := .agg #[.int .u8 c.kind, .int .u8 c.node, .int .u8 c.life, .int .u32 c.epoch, .int .u32 c.req]) (by simp [results, Try.results68, go_sem, hc0, hc1, hc2, hc3, hc4, hf0, hf1, hf2, hf3, hf4]) rfl ⟨rfl, ?_, ?_⟩
  · exact ((((hr5.kept (only_set _ w.heap.size 0 _) (by omega)).kept (only_set _ w.heap.size 1 _) (by omega)).kept (only_set _ w.heap.size 2 _) (by omega)).kept (only_set _ w.heap.size 3 _) (by omega)).kept (only_set _ w.heap.size 4 _) (by omega)
  · (repeat (first | exact Kp.refl _ _ | assumption | refine Kp.alloc ?_ _ | refine Kp.drew ?_ | refine Kp.drewN ?_ _ | refine Kp.setCell ?_ (by simp; try omega) _ | (apply Kp.trans; rotate_left; assumption) | (refine Kp.trans ?_ (Kp.of_below (by assumption)))))
end Go.Proofs.Ytlpnomejpaoeaaa
