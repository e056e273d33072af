/- Package acceptor: Accept, Prepare, Truncate over an acceptor with its journal. -/
import Derived.Test.YtlpnomejpaoeaaaAct
namespace Go.Proofs.Ytlpnomejpaoeaaa
set_option linter.unusedSimpArgs false
set_option linter.unusedVariables false
open Go.RowKit
set_option maxHeartbeats 400000
set_option maxRecDepth 20000

theorem Ac.next.back {a a' : Ac} {w w1 : World} (h : a.next a' w1) (hb : Below w.heap.size w w1) : a.next a' w :=
  ⟨h.A, h.d, h.j, h.m, fun k hk => (h.s k hk).imp id (fun h => Nat.le_trans hb.size h), fun k hk => (h.v k hk).imp id (fun h => Nat.le_trans hb.size h)⟩
theorem Kp.back {S : Nat → Prop} {w w1 w2 : World} (h : Kp S w1 w2) (hb : Below w.heap.size w w1) : Kp S w w2 := (Kp.of_below hb).trans h

set_option maxHeartbeats 1000000 in
/-- Accept: written. -/
theorem acceptor_Accept (a : Ac) (l : List Rec) (b : Ballot) (hb : b.fits) (slot : Int) (hs : 0 ≤ slot ∧ slot < 4294967296) (c : Cmd) (hc : c.fits) (w : World) (h : AcIs w a l false false) (hl : Fits l) (hn : l.length ≤ 10000) (he : acceptErr (replay l) b slot = 0) :
    Calls Try.prog 17 #[rptr a.A, .agg (balArr b), .int .u32 slot, .agg (cmdCells c)] w (Wrote w a l (.accept ⟨slot, b, c⟩)) := by
  have hlt := h.acc.lt
  have hok := replay_ok hl
  have c1 : w.cell? ⟨a.A, 1, none⟩ = some (.int .u32 (replay l).p.n) := by rw [cell_of h.acc.at_]; rfl
  have c2 : w.cell? ⟨a.A, 2, none⟩ = some (.int .u8 (replay l).p.by_) := by rw [cell_of h.acc.at_]; rfl
  have c3 : w.cell? ⟨a.A, 3, none⟩ = some (.int .u32 (replay l).low) := by rw [cell_of h.acc.at_]; rfl
  have h1 : ¬ slot < (replay l).low := fun h1 => by simp [acceptErr, h1] at he
  have h2 : ¬ 16 ≤ slot - (replay l).low := fun h2 => by simp [acceptErr, h1, h2] at he
  have h3 : b.below (replay l).p = false := by
    cases h3 : b.below (replay l).p with
    | false => rfl
    | true => simp [acceptErr, h1, h2, h3] at he
  have hlo := hok.low
  have hwr : IntKind.u32.wrap (slot - (replay l).low) = slot - (replay l).low := by rw [IntKind.wrap_u32]; omega
  have H := hid h
  have Hl := hid hl
  have hB : Below w.heap.size w ((w.alloc (.cells (balArr b) 42)).alloc (.cells (cmdCells c) 54)) := pu_alloc (pu_alloc (pu_refl w) _) _
  have HB := hid hB
  clear h hB he hok hl
  generalize replay l = st at *
  go_enter Try.func17, Try.ntmps17
  go_wp2_with fail
  obtain ⟨d0, d1, d2, d3⟩ := box_facts hlt c1 c2 b (.cells (cmdCells c) 54)
  have g1 : ((w.alloc (.cells (balArr b) 42)).alloc (.cells (cmdCells c) 54)).heap[w.heap.size + 1]? = some (.cells (cmdCells c) 54 (0, 0)) := by
    have := alloc_new (w.alloc (.cells (balArr b) 42)) (.cells (cmdCells c) 54)
    simpa using this
  generalize hW : World.alloc (World.alloc w _) _ = W at *
  go_region_held3 (fun w' => w'.cell? ⟨w.heap.size, 0, none⟩ = some (.int .u32 b.n) ∧ w'.cell? ⟨w.heap.size, 1, none⟩ = some (.int .u8 b.by_) ∧ w'.cell? ⟨a.A, 1, none⟩ = some (.int .u32 st.p.n) ∧ w'.cell? ⟨a.A, 2, none⟩ = some (.int .u8 st.p.by_)) (first | (apply cell_keep4 <;> assumption) | go_keep) (first | (go_at_call 16; refine (mark_Below b st.p _).mono ?_; rintro e w1 ⟨rfl, hk1⟩))
  rename_i hHeld
  obtain ⟨e0, e1, -, -⟩ := hHeld
  have hkW1 : Below W.heap.size W w1 := pu_trans (pu_drew (pu_refl W)) hk1
  have g1' := (hkW1.block _ (lt_of_block g1)).trans g1
  have k0 : w1.cell? ⟨w.heap.size + 1, 0, none⟩ = some (.int .u8 c.kind) := by rw [cell_of g1']; rfl
  have k1 : w1.cell? ⟨w.heap.size + 1, 1, none⟩ = some (.int .u8 c.node) := by rw [cell_of g1']; rfl
  have k2 : w1.cell? ⟨w.heap.size + 1, 2, none⟩ = some (.int .u8 c.life) := by rw [cell_of g1']; rfl
  have k3 : w1.cell? ⟨w.heap.size + 1, 3, none⟩ = some (.int .u32 c.epoch) := by rw [cell_of g1']; rfl
  have k4 : w1.cell? ⟨w.heap.size + 1, 4, none⟩ = some (.int .u32 c.req) := by rw [cell_of g1']; rfl
  have hbw1 : Below w.heap.size w w1 := pu_trans HB.out hkW1
  clear d0 d1 d2 d3
  go_wp2_with fail
  refine (acceptor_accepted ⟨slot, b, c⟩ ⟨hs, hb, hc⟩ _).mono ?_
  rintro e w2 ⟨rfl, hk2⟩
  have hbw2 : Below w.heap.size w w2 := pu_trans hbw1 hk2
  rw [record_accept]
  go_wp2_with fail
  refine (acceptor_write a l (.accept ⟨slot, b, c⟩) _ (H.out.below hbw2) Hl.out hn ⟨hs, hb, hc⟩).mono ?_
  rintro e w3 ⟨a', rfl, hA, hnx, hk3⟩
  go_wp2
  go_ret
  exact ⟨a', rfl, hA, hnx.back hbw2, hk3.back hbw2⟩
theorem viewParts_ok (low : Int) (hl : 0 ≤ low ∧ low < 4294967296) (v : View) (hv : v.good) : ∀ p ∈ viewParts low v, p.ok := by
  obtain ⟨hv, hn⟩ := hv
  intro p hp
  simp only [viewParts, headParts, List.mem_append, List.mem_cons, List.not_mem_nil, or_false, List.mem_flatMap] at hp
  rcases hp with ((rfl | rfl | rfl) | ⟨m, hm, hp⟩) | rfl
  · exact ok4 hl
  · exact ok4 hv.epoch
  · exact ok1 (by omega)
  · have := hv.members m hm
    simp only [memParts, List.mem_cons, List.not_mem_nil, or_false] at hp
    rcases hp with rfl | rfl | rfl
    · exact ok1 this.1
    · exact ok1 this.2
    · exact ok1 (by split <;> omega)
  · exact Part.ok.raw _ (by rw [livesBytes_length]; omega)

set_option maxHeartbeats 1000000 in
/-- Truncate: written. -/
theorem acceptor_Truncate (a : Ac) (l : List Rec) (low : Int) (hlo : 0 ≤ low ∧ low < 4294967296) (v : View) (hv : v.good) (s : Value) (w : World) (h : AcIs w a l false false) (hs : Rd w 3 s v.members.length (memCells v.members)) (hl : Fits l) (hn : l.length ≤ 10000) (he : (replay l).low < low) :
    Calls Try.prog 19 #[rptr a.A, .int .u32 low, .agg (viewCells v s)] w (Wrote w a l (.cut low v)) := by
  have hlt := h.acc.lt
  have c3 : w.cell? ⟨a.A, 3, none⟩ = some (.int .u32 (replay l).low) := by rw [cell_of h.acc.at_]; rfl
  obtain ⟨p, cap, rfl⟩ := hs.form
  have H := hid h
  have Hl := hid hl
  have Hs := hid hs
  have Hv := hid hv
  have hv8 : (v.members.length : Int) ≤ 8 := by have := hv.2; omega
  have hdec : decide (v.members.length ≤ 8) = true := by have := hv.2; simpa using this
  have hvp := hid (viewParts_ok low hlo v hv)
  have hvl := viewParts_length low v
  clear h hl hs hv
  generalize replay l = st at *
  go_enter Try.func19, Try.ntmps19
  go_wp2_with fail
  refine (acceptor_holds v _ _ (Hs.out.below (below_alloc _ _))).mono ?_
  rintro e w1 ⟨rfl, hk1⟩
  rw [hdec]
  have g1 : w1.heap[w.heap.size]? = some (.cells (viewCells v (.slice p v.members.length cap)) 32 (0, 0)) := (hk1.block _ (by simp)).trans (alloc_new w _)
  have hbw1 : Below w.heap.size w w1 := pu_trans (below_alloc _ _) hk1
  have k3 : w1.cell? ⟨a.A, 3, none⟩ = some (.int .u32 st.low) := cell_keep hbw1 c3
  have e0 : w1.cell? ⟨w.heap.size, 0, none⟩ = some (.int .u32 v.epoch) := by rw [cell_of g1]; rfl
  have e1 : w1.cell? ⟨w.heap.size, 1, none⟩ = some (.slice p v.members.length cap) := by rw [cell_of g1]; rfl
  have e2 : w1.cell? ⟨w.heap.size, 2, none⟩ = some (.int .u8 (v.l 0)) := by rw [cell_of g1]; rfl
  have e3 : w1.cell? ⟨w.heap.size, 3, none⟩ = some (.int .u8 (v.l 1)) := by rw [cell_of g1]; rfl
  have e4 : w1.cell? ⟨w.heap.size, 4, none⟩ = some (.int .u8 (v.l 2)) := by rw [cell_of g1]; rfl
  have e5 : w1.cell? ⟨w.heap.size, 5, none⟩ = some (.int .u8 (v.l 3)) := by rw [cell_of g1]; rfl
  have e6 : w1.cell? ⟨w.heap.size, 6, none⟩ = some (.int .u8 (v.l 4)) := by rw [cell_of g1]; rfl
  have e7 : w1.cell? ⟨w.heap.size, 7, none⟩ = some (.int .u8 (v.l 5)) := by rw [cell_of g1]; rfl
  have e8 : w1.cell? ⟨w.heap.size, 8, none⟩ = some (.int .u8 (v.l 6)) := by rw [cell_of g1]; rfl
  have e9 : w1.cell? ⟨w.heap.size, 9, none⟩ = some (.int .u8 (v.l 7)) := by rw [cell_of g1]; rfl
  go_wp2_with fail
  refine (acceptor_parts low hlo v Hv.out.1 Hv.out.2 _ _ (Hs.out.below hbw1)).mono ?_
  rintro e w2 ⟨s2, rfl, ho2, hf2, hk2⟩
  have hbw2 : Below w.heap.size w w2 := pu_trans hbw1 hk2
  go_wp2_with fail
  refine (acceptor_record 4 (by omega) (by omega) _ hvp.out (by omega) s2 _ ho2.rd).mono ?_
  rintro e w3 ⟨rfl, hk3⟩
  have hbw3 : Below w.heap.size w w3 := pu_trans hbw2 hk3
  rw [record_cut]
  go_wp2_with fail
  refine (acceptor_write a l (.cut low v) _ (H.out.below hbw3) Hl.out hn ⟨hlo, Hv.out⟩).mono ?_
  rintro e w4 ⟨a', rfl, hA, hnx, hk4⟩
  go_wp2
  go_ret
  exact ⟨a', rfl, hA, hnx.back hbw3, hk4.back hbw3⟩

set_option maxHeartbeats 1000000 in
/-- Truncate: nothing is done. -/
theorem acceptor_Truncate_no (A j : Nat) (st : St) (s0 : Value) (m : Nat) (low : Int) (v : View) (hv : v.members.length ≤ 8) (s : Value) (w : World) (h : AccAt w A j st s0 m) (hs : Rd w 3 s v.members.length (memCells v.members)) (he : low ≤ st.low) :
    Calls Try.prog 19 #[rptr A, .int .u32 low, .agg (viewCells v s)] w fun e w' => e = .returned (.int .i64 0) ∧ Below w.heap.size w w' := by
  have hlt := h.lt
  have c3 : w.cell? ⟨A, 3, none⟩ = some (.int .u32 st.low) := by rw [cell_of h.at_]; rfl
  obtain ⟨p, cap, rfl⟩ := hs.form
  have Hs := hid hs
  have hdec : decide (v.members.length ≤ 8) = true := by simpa using hv
  clear h hs
  go_enter Try.func19, Try.ntmps19
  go_wp2_with fail
  refine (acceptor_holds v _ _ (Hs.out.below (below_alloc _ _))).mono ?_
  rintro e w1 ⟨rfl, hk1⟩
  rw [hdec]
  have hbw1 : Below w.heap.size w w1 := pu_trans (below_alloc _ _) hk1
  have k3 : w1.cell? ⟨A, 3, none⟩ = some (.int .u32 st.low) := cell_keep hbw1 c3
  go_wp2
  go_ret
  exact ⟨rfl, hbw1⟩
/-- Truncate: a view that is too wide. -/
theorem acceptor_Truncate_wide (A : Nat) (low : Int) (v : View) (hv : ¬ v.members.length ≤ 8) (s : Value) (w : World) (hs : Rd w 3 s v.members.length (memCells v.members)) :
    Calls Try.prog 19 #[rptr A, .int .u32 low, .agg (viewCells v s)] w fun e w' => e = .returned (.int .i64 1) ∧ Below w.heap.size w w' := by
  obtain ⟨p, cap, rfl⟩ := hs.form
  have Hs := hid hs
  have hdec : decide (v.members.length ≤ 8) = false := by simpa using hv
  clear hs
  go_enter Try.func19, Try.ntmps19
  go_wp2_with fail
  refine (acceptor_holds v _ _ (Hs.out.below (below_alloc _ _))).mono ?_
  rintro e w1 ⟨rfl, hk1⟩
  rw [hdec]
  have hbw1 : Below w.heap.size w w1 := pu_trans (below_alloc _ _) hk1
  go_wp2
  go_ret
  exact ⟨rfl, hbw1⟩
end Go.Proofs.Ytlpnomejpaoeaaa
