/- Package acceptor: no acceptor; a disk without power. -/
import Derived.Test.YtlpnomejpaoeaaaAct3
namespace Go.Proofs.Ytlpnomejpaoeaaa
set_option linter.unusedSimpArgs false
set_option linter.unusedVariables false
open Go.RowKit
set_option maxHeartbeats 400000
set_option maxRecDepth 20000

theorem acceptor_Prepare_nil (b : Ballot) (f : Int) (w : World) :
    Calls Try.prog 15 #[.pointer none, .agg (balArr b), .int .u32 f] w fun e w' => e = .returned (.tuple #[.slice none 0 0, .int .i64 1]) ∧ Below w.heap.size w w' := by
  go_enter Try.func15, Try.ntmps15
  go_wp2
  go_ret2
  exact ⟨rfl, below_alloc _ _⟩
theorem acceptor_Accept_nil (b : Ballot) (slot : Int) (c : Cmd) (w : World) :
    Calls Try.prog 17 #[.pointer none, .agg (balArr b), .int .u32 slot, .agg (cmdCells c)] w fun e w' => e = .returned (.int .i64 1) ∧ Below w.heap.size w w' := by
  go_enter Try.func17, Try.ntmps17
  go_wp2
  go_ret
  exact ⟨rfl, pu_alloc (pu_alloc (pu_refl w) _) _⟩
theorem acceptor_Truncate_nil (low : Int) (v : View) (s : Value) (w : World) :
    Calls Try.prog 19 #[.pointer none, .int .u32 low, .agg (viewCells v s)] w fun e w' => e = .returned (.int .i64 1) ∧ Below w.heap.size w w' := by
  go_enter Try.func19, Try.ntmps19
  go_wp2
  go_ret
  exact ⟨rfl, below_alloc _ _⟩
theorem acceptor_Entries_nil (f : Int) (w : World) :
    Calls Try.prog 13 #[.pointer none, .int .u32 f] w fun e w' => e = .returned (.slice none 0 0) ∧ w = w' := by
  go_enter Try.func13, Try.ntmps13
  go_wp2
  go_ret
  exact ⟨rfl, rfl⟩

theorem acceptor_write_off (a : Ac) (l : List Rec) (r : Rec) (w : World) (h : AcIs w a l false true) (hl : Fits l) (hn : l.length ≤ 10000) (hr : r.fits) :
    Calls Try.prog 45 #[rptr a.A, str r.bytes] w fun e w' => e = .returned (.int .i64 10) ∧ AcIs w' a l true true ∧ Kp (fun k => k = a.j) w w' := by
  have h0 : w.cell? ⟨a.A, 0, none⟩ = some (rptr a.j) := by rw [cell_of h.acc.at_]; rfl
  have hrl := r.len hr
  have Hrl := hid hrl
  have H := hid h
  clear h hrl
  go_enter Try.func45, Try.ntmps45
  go_wp2_with fail
  refine (journal_Add_off a.j a.d a.v _ _ (texts l) r.bytes _ H.out.jrn H.out.disk H.out.ap Hrl.out.1 (by have := Hrl.out.2; omega)).mono ?_
  rintro e w1 ⟨rfl, hj1, hk1⟩
  go_wp2
  go_ret
  exact ⟨rfl, ⟨H.out.acc.kept hk1 (fun e => H.out.Aj e) (fun e => H.out.mj e) (fun k hk e => H.out.sj (by rw [← e]; exact hk)), hj1, H.out.disk.kept hk1 (fun e => H.out.ap.jd e.symm), H.out.ap, H.out.Aj, H.out.Ad, H.out.mj, H.out.md, H.out.vA, H.out.vm, H.out.sj, H.out.sd, H.out.sv⟩, hk1⟩

set_option maxHeartbeats 1000000 in
/-- Accept: the disk has no power. -/
theorem acceptor_Accept_off (a : Ac) (l : List Rec) (b : Ballot) (hb : b.fits) (slot : Int) (hs : 0 ≤ slot ∧ slot < 4294967296) (c : Cmd) (hc : c.fits) (w : World) (h : AcIs w a l false true) (hl : Fits l) (hn : l.length ≤ 10000) (he : acceptErr (replay l) b slot = 0) :
    Calls Try.prog 17 #[rptr a.A, .agg (balArr b), .int .u32 slot, .agg (cmdCells c)] w fun e w' => e = .returned (.int .i64 10) ∧ AcIs w' a l true true ∧ Kp (fun k => k = a.j) w w' := by
  have hlt := h.acc.lt
  have hok := replay_ok hl
  have c1 : w.cell? ⟨a.A, 1, none⟩ = some (.int .u32 (replay l).p.n) := by rw [cell_of h.acc.at_]; rfl
  have c2 : w.cell? ⟨a.A, 2, none⟩ = some (.int .u8 (replay l).p.by_) := by rw [cell_of h.acc.at_]; rfl
  have c3 : w.cell? ⟨a.A, 3, none⟩ = some (.int .u32 (replay l).low) := by rw [cell_of h.acc.at_]; rfl
  have h1 : ¬ slot < (replay l).low := fun h1 => by simp [acceptErr, h1] at he
  have h2 : ¬ 16 ≤ slot - (replay l).low := fun h2 => by simp [acceptErr, h1, h2] at he
  have h3 : b.below (replay l).p = false := by
    cases h3 : b.below (replay l).p with
    | false => rfl
    | true => simp [acceptErr, h1, h2, h3] at he
  have hlo := hok.low
  have hwr : IntKind.u32.wrap (slot - (replay l).low) = slot - (replay l).low := by rw [IntKind.wrap_u32]; omega
  have H := hid h
  have Hl := hid hl
  have hB : Below w.heap.size w ((w.alloc (.cells (balArr b) 42)).alloc (.cells (cmdCells c) 54)) := pu_alloc (pu_alloc (pu_refl w) _) _
  have HB := hid hB
  clear h hB he hok hl
  generalize replay l = st at *
  go_enter Try.func17, Try.ntmps17
  go_wp2_with fail
  obtain ⟨d0, d1, d2, d3⟩ := box_facts hlt c1 c2 b (.cells (cmdCells c) 54)
  have g1 : ((w.alloc (.cells (balArr b) 42)).alloc (.cells (cmdCells c) 54)).heap[w.heap.size + 1]? = some (.cells (cmdCells c) 54 (0, 0)) := by
    have := alloc_new (w.alloc (.cells (balArr b) 42)) (.cells (cmdCells c) 54)
    simpa using this
  generalize hW : World.alloc (World.alloc w _) _ = W at *
  go_region_held3 (fun w' => w'.cell? ⟨w.heap.size, 0, none⟩ = some (.int .u32 b.n) ∧ w'.cell? ⟨w.heap.size, 1, none⟩ = some (.int .u8 b.by_) ∧ w'.cell? ⟨a.A, 1, none⟩ = some (.int .u32 st.p.n) ∧ w'.cell? ⟨a.A, 2, none⟩ = some (.int .u8 st.p.by_)) (first | (apply cell_keep4 <;> assumption) | go_keep) (first | (go_at_call 16; refine (mark_Below b st.p _).mono ?_; rintro e w1 ⟨rfl, hk1⟩))
  rename_i hHeld
  obtain ⟨e0, e1, -, -⟩ := hHeld
  have hkW1 : Below W.heap.size W w1 := pu_trans (pu_drew (pu_refl W)) hk1
  have g1' := (hkW1.block _ (lt_of_block g1)).trans g1
  have k0 : w1.cell? ⟨w.heap.size + 1, 0, none⟩ = some (.int .u8 c.kind) := by rw [cell_of g1']; rfl
  have k1 : w1.cell? ⟨w.heap.size + 1, 1, none⟩ = some (.int .u8 c.node) := by rw [cell_of g1']; rfl
  have k2 : w1.cell? ⟨w.heap.size + 1, 2, none⟩ = some (.int .u8 c.life) := by rw [cell_of g1']; rfl
  have k3 : w1.cell? ⟨w.heap.size + 1, 3, none⟩ = some (.int .u32 c.epoch) := by rw [cell_of g1']; rfl
  have k4 : w1.cell? ⟨w.heap.size + 1, 4, none⟩ = some (.int .u32 c.req) := by rw [cell_of g1']; rfl
  have hbw1 : Below w.heap.size w w1 := pu_trans HB.out hkW1
  clear d0 d1 d2 d3
  go_wp2_with fail
  refine (acceptor_accepted ⟨slot, b, c⟩ ⟨hs, hb, hc⟩ _).mono ?_
  rintro e w2 ⟨rfl, hk2⟩
  have hbw2 : Below w.heap.size w w2 := pu_trans hbw1 hk2
  rw [record_accept]
  go_wp2_with fail
  refine (acceptor_write_off a l (.accept ⟨slot, b, c⟩) _ (H.out.below hbw2) Hl.out hn ⟨hs, hb, hc⟩).mono ?_
  rintro e w3 ⟨rfl, hA, hk3⟩
  go_wp2
  go_ret
  exact ⟨rfl, hA, hk3.back hbw2⟩
end Go.Proofs.Ytlpnomejpaoeaaa
