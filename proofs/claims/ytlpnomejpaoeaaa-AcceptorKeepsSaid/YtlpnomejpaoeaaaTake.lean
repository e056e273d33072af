/- Package acceptor: a record's change. -/
import Derived.Test.YtlpnomejpaoeaaaCut
namespace Go.Proofs.Ytlpnomejpaoeaaa
set_option linter.unusedSimpArgs false
set_option linter.unusedVariables false
open Go.RowKit
set_option maxHeartbeats 400000
set_option maxRecDepth 20000

/-- The acceptor's records. -/
inductive Rec where
  | promise (b : Ballot)
  | accept (x : Entry)
  | birth (self : Int) (v : View)
  | cut (low : Int) (v : View)
def Rec.bytes : Rec → Bytes
  | .promise b => beBytes 2 1 ++ (beBytes b.n 4 ++ (beBytes b.by_ 1 ++ []))
  | .accept x => beBytes 3 1 ++ (beBytes x.slot 4 ++ (beBytes x.b.n 4 ++ (beBytes x.b.by_ 1 ++ (cmdBytes x.c ++ []))))
  | .birth self v => beBytes 1 1 ++ (beBytes self 1 ++ (beBytes 0 4 ++ (viewBytes v ++ [])))
  | .cut low v => beBytes 4 1 ++ (beBytes low 4 ++ (viewBytes v ++ []))
def View.good (v : View) : Prop := v.fits ∧ v.members.length ≤ 8
def Rec.fits : Rec → Prop
  | .promise b => b.fits
  | .accept x => x.fits
  | .birth self v => (0 ≤ self ∧ self < 256) ∧ v.good
  | .cut low v => (0 ≤ low ∧ low < 4294967296) ∧ v.good
def St.step (st : St) : Rec → St
  | .promise b => { st with p := hi st.p b }
  | .accept x => { st with p := hi st.p x.b, ents := entPut st.ents x }
  | .birth _ v => st.cut 0 v
  | .cut low v => st.cut low v

theorem viewBytes_length (v : View) : (viewBytes v).length = 13 + v.members.length * 3 := by
  simp only [viewBytes, List.length_append, beBytes_length, memBytes_length, livesBytes_length]; omega
theorem cmdBytes_length (c : Cmd) : (cmdBytes c).length = 11 := by simp [cmdBytes, beBytes_length]

/-- What a change leaves. -/
def Took (A j m : Nat) (s0 : Value) (st : St) (w : World) (e : Ending) (w' : World) : Prop :=
  ∃ s, e = .returned (.tuple #[]) ∧ AccAt w' A j st s m ∧ Kp (fun k => k = A ∨ k = m) w w' ∧ ∀ k, s.ownBlock = some k → s0.ownBlock = some k ∨ w.heap.size ≤ k

theorem read_below {w w1 w2 : World} (hb : Below w.heap.size w w1) (hk : Only w.heap.size w1 w2) : Below w.heap.size w w2 :=
  ⟨hk.os.trans hb.os, hk.tape.trans hb.tape, hk.output.trans hb.output, Nat.le_trans hb.size hk.size, fun i hi => (hk.block i (Nat.lt_of_lt_of_le hi hb.size) (by omega)).trans (hb.block i hi)⟩

theorem take_promise (A j : Nat) (st : St) (s : Value) (m : Nat) (b : Ballot) (hb : b.fits) (w : World) (h : AccAt w A j st s m) :
    Calls Try.prog 40 #[sptr A, str (Rec.promise b).bytes] w (Took A j m s (st.step (.promise b)) w) := by
  have H := hid h
  clear h
  go_enter Try.func40, Try.ntmps40
  go_wp2_with fail
  refine (octet_Read _ _).mono ?_
  rintro e w1 ⟨rfl, hw1⟩
  have hb1 : Below w.heap.size w w1 := by rw [← hw1]; exact below_alloc _ _
  have hr1 : RdrAt w1 w.heap.size (Rec.promise b).bytes 0 := by rw [← hw1]; exact alloc_new _ _
  clear hw1
  go_wp2_with fail
  refine (rd_num1 2 (by omega) _ (by simp [beBytes_length]) _ _ hr1).mono ?_
  rintro e w2 ⟨rfl, hr2, hk2⟩
  go_wp2_with fail
  refine (acceptor_ballot b hb _ (by simp) _ _ hr2).mono ?_
  rintro e w3 ⟨rfl, hr3, hk3⟩
  have hb3 : Below w.heap.size w w3 := read_below hb1 (hk2.trans hk3)
  go_wp2_with fail
  refine (state_promise A j st s m b _ (H.out.below hb3)).mono ?_
  rintro e w4 ⟨rfl, hA4, hk4⟩
  go_wp2
  go_end0
  exact ⟨s, rfl, hA4, (Kp.of_below hb3).then hk4 (fun k _ e => .inl e), fun k h => .inl h⟩

theorem take_accept (A j : Nat) (st : St) (s : Value) (m : Nat) (x : Entry) (hx : x.fits) (w : World) (h : AccAt w A j st s m) :
    Calls Try.prog 40 #[sptr A, str (Rec.accept x).bytes] w (Took A j m s (st.step (.accept x)) w) := by
  have H := hid h
  obtain ⟨hx1, hx2, hx3⟩ := hx
  have hwr : IntKind.u32.wrap x.slot = x.slot := by rw [IntKind.wrap_u32]; omega
  clear h
  go_enter Try.func40, Try.ntmps40
  go_wp2_with fail
  refine (octet_Read _ _).mono ?_
  rintro e w1 ⟨rfl, hw1⟩
  have hb1 : Below w.heap.size w w1 := by rw [← hw1]; exact below_alloc _ _
  have hr1 : RdrAt w1 w.heap.size (Rec.accept x).bytes 0 := by rw [← hw1]; exact alloc_new _ _
  clear hw1
  go_wp2_with fail
  refine (rd_num1 3 (by omega) _ (by simp [beBytes_length, cmdBytes_length]) _ _ hr1).mono ?_
  rintro e w2 ⟨rfl, hr2, hk2⟩
  go_wp2_with fail
  refine (rd_num4 _ hx1 _ (by simp [beBytes_length, cmdBytes_length]) _ _ hr2).mono ?_
  rintro e w3 ⟨rfl, hr3, hk3⟩
  go_wp2_with fail
  refine (acceptor_ballot x.b hx2 _ (by simp [cmdBytes_length]) _ _ hr3).mono ?_
  rintro e w4 ⟨rfl, hr4, hk4⟩
  go_wp2_with fail
  refine (acceptor_command x.c hx3 _ (by simp) _ _ hr4).mono ?_
  rintro e w5 ⟨rfl, hr5, hk5⟩
  have hb5 : Below w.heap.size w w5 := read_below hb1 (((hk2.trans hk3).trans hk4).trans hk5)
  go_wp2_with fail
  refine (state_accept A j st s m x _ (H.out.below hb5)).mono ?_
  rintro e w6 ⟨rfl, hA6, hk6⟩
  go_wp2
  go_end0
  exact ⟨s, rfl, hA6, (Kp.of_below hb5).then hk6 (fun k _ e => e), fun k h => .inl h⟩

theorem take_cut (A j : Nat) (st : St) (s : Value) (m : Nat) (low : Int) (hl : 0 ≤ low ∧ low < 4294967296) (v : View) (hv : v.good) (w : World) (h : AccAt w A j st s m) :
    Calls Try.prog 40 #[sptr A, str (Rec.cut low v).bytes] w (Took A j m s (st.step (.cut low v)) w) := by
  have H := hid h
  have hlA := h.lt
  have hlm := h.map.lt
  obtain ⟨hv1, hv2⟩ := hv
  have hwr : IntKind.u32.wrap low = low := by rw [IntKind.wrap_u32]; omega
  clear h
  go_enter Try.func40, Try.ntmps40
  go_wp2_with fail
  refine (octet_Read _ _).mono ?_
  rintro e w1 ⟨rfl, hw1⟩
  have hb1 : Below w.heap.size w w1 := by rw [← hw1]; exact below_alloc _ _
  have hr1 : RdrAt w1 w.heap.size (Rec.cut low v).bytes 0 := by rw [← hw1]; exact alloc_new _ _
  clear hw1
  go_wp2_with fail
  refine (rd_num1 4 (by omega) _ (by simp [beBytes_length, viewBytes_length]; omega) _ _ hr1).mono ?_
  rintro e w2 ⟨rfl, hr2, hk2⟩
  go_wp2_with fail
  refine (rd_num4 _ hl _ (by simp [viewBytes_length]; omega) _ _ hr2).mono ?_
  rintro e w3 ⟨rfl, hr3, hk3⟩
  go_wp2_with fail
  refine (acceptor_viewed v hv1 hv2 _ (by simp) _ _ hr3).mono ?_
  rintro e w4 ⟨s2, rfl, ho4, hf4, hr4, hk4⟩
  have hb3 : Below w.heap.size w w3 := read_below hb1 (hk2.trans hk3)
  have hb4 : Below w.heap.size w w4 := read_below hb3 hk4
  have h2A : ¬ s2.ownBlock = some A := fun e => by have := hf4 _ e; have := hb3.size; omega
  have h2m : ¬ s2.ownBlock = some m := fun e => by have := hf4 _ e; have := hb3.size; omega
  go_wp2_with fail
  refine (state_cut A j st s s2 m low v _ (H.out.below hb4) ho4.rd h2A h2m).mono ?_
  rintro e w6 ⟨rfl, hA6, hk6⟩
  go_wp2
  go_end0
  exact ⟨s2, rfl, hA6, (Kp.of_below hb4).then hk6 (fun k _ e => e), fun k h => .inr (by have := hf4 _ h; have := hb3.size; omega)⟩

theorem take_birth (A j : Nat) (st : St) (s : Value) (m : Nat) (self : Int) (hl : 0 ≤ self ∧ self < 256) (v : View) (hv : v.good) (w : World) (h : AccAt w A j st s m) :
    Calls Try.prog 40 #[sptr A, str (Rec.birth self v).bytes] w (Took A j m s (st.step (.birth self v)) w) := by
  have H := hid h
  have hlA := h.lt
  have hlm := h.map.lt
  obtain ⟨hv1, hv2⟩ := hv
  clear h
  go_enter Try.func40, Try.ntmps40
  go_wp2_with fail
  refine (octet_Read _ _).mono ?_
  rintro e w1 ⟨rfl, hw1⟩
  have hb1 : Below w.heap.size w w1 := by rw [← hw1]; exact below_alloc _ _
  have hr1 : RdrAt w1 w.heap.size (Rec.birth self v).bytes 0 := by rw [← hw1]; exact alloc_new _ _
  clear hw1
  go_wp2_with fail
  refine (rd_num1 1 (by omega) _ (by simp [beBytes_length, viewBytes_length]; omega) _ _ hr1).mono ?_
  rintro e w2 ⟨rfl, hr2, hk2⟩
  go_wp2_with fail
  refine (rd_num1 _ hl _ (by simp [beBytes_length, viewBytes_length]; omega) _ _ hr2).mono ?_
  rintro e w2' ⟨rfl, hr2', hk2'⟩
  go_wp2_with fail
  refine (rd_num4 0 (by omega) _ (by simp [viewBytes_length]; omega) _ _ hr2').mono ?_
  rintro e w3 ⟨rfl, hr3, hk3⟩
  go_wp2_with fail
  refine (acceptor_viewed v hv1 hv2 _ (by simp) _ _ hr3).mono ?_
  rintro e w4 ⟨s2, rfl, ho4, hf4, hr4, hk4⟩
  have hb3 : Below w.heap.size w w3 := read_below hb1 ((hk2.trans hk2').trans hk3)
  have hb4 : Below w.heap.size w w4 := read_below hb3 hk4
  have h2A : ¬ s2.ownBlock = some A := fun e => by have := hf4 _ e; have := hb3.size; omega
  have h2m : ¬ s2.ownBlock = some m := fun e => by have := hf4 _ e; have := hb3.size; omega
  go_wp2_with fail
  refine (state_cut A j st s s2 m 0 v _ (H.out.below hb4) ho4.rd h2A h2m).mono ?_
  rintro e w6 ⟨rfl, hA6, hk6⟩
  go_wp2
  go_end0
  exact ⟨s2, rfl, hA6, (Kp.of_below hb4).then hk6 (fun k _ e => e), fun k h => .inr (by have := hf4 _ h; have := hb3.size; omega)⟩

theorem state_take (A j : Nat) (st : St) (s : Value) (m : Nat) (x : Rec) (hx : x.fits) (w : World) (h : AccAt w A j st s m) :
    Calls Try.prog 40 #[sptr A, str x.bytes] w (Took A j m s (st.step x) w) := by
  cases x with
  | promise b => exact take_promise A j st s m b hx w h
  | accept x => exact take_accept A j st s m x hx w h
  | birth self v => exact take_birth A j st s m self hx.1 v hx.2 w h
  | cut low v => exact take_cut A j st s m low hx.1 v hx.2 w h
end Go.Proofs.Ytlpnomejpaoeaaa
