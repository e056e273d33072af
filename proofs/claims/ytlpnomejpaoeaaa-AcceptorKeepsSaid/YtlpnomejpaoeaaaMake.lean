/- Package acceptor: Open that fails; Make. -/
import Derived.Test.YtlpnomejpaoeaaaOpen
namespace Go.Proofs.Ytlpnomejpaoeaaa
set_option linter.unusedSimpArgs false
set_option linter.unusedVariables false
open Go.RowKit
set_option maxHeartbeats 400000
set_option maxRecDepth 20000

theorem journal_Open_off (d : Nat) (s : Bytes) (lasts : Int) (w : World) (hd : DiskAt w d s lasts true) :
    Calls Try.prog 33 #[rptr d] w fun e w' => e = .returned (.tuple #[.pointer none, .int .i64 10]) ∧ w = w' := by
  go_enter Try.func33, Try.ntmps33
  go_wp2_with fail
  refine (disk_Read d s lasts true _ hd).mono ?_
  rintro e w' ⟨rfl, rfl⟩
  simp only [if_true]
  go_wp2
  go_ret2
  exact ⟨rfl, rfl⟩

theorem acceptor_Open_bad (d self : Int) (hself : goodB self = false) (x : Value) (w : World) :
    Calls Try.prog 10 #[x, .int .u8 self] w fun e w' => e = .returned (.tuple #[.pointer none, .int .i64 1]) ∧ w = w' := by
  go_enter Try.func10, Try.ntmps10
  go_wp2_with fail
  refine (acceptor_good self _).mono ?_
  rintro e w0 ⟨rfl, rfl⟩
  rw [hself]
  go_wp2
  go_ret2
  exact ⟨rfl, rfl⟩
theorem acceptor_Open_off (d : Nat) (s : Bytes) (lasts self : Int) (hself : goodB self = true) (w : World) (hd : DiskAt w d s lasts true) :
    Calls Try.prog 10 #[rptr d, .int .u8 self] w fun e w' => e = .returned (.tuple #[.pointer none, .int .i64 10]) ∧ w = w' := by
  go_enter Try.func10, Try.ntmps10
  go_wp2_with fail
  refine (acceptor_good self _).mono ?_
  rintro e w0 ⟨rfl, rfl⟩
  rw [hself]
  go_wp2_with fail
  refine (journal_Open_off d s lasts _ hd).mono ?_
  rintro e w1 ⟨rfl, rfl⟩
  go_wp2
  go_ret2
  exact ⟨rfl, rfl⟩
/-- The disk's block has turned, but not what it holds. -/
def DiskSame (w : World) (d : Nat) (s : Bytes) (w' : World) : Prop := DiskAt w' d s s.length false ∧ Only d w w'
theorem acceptor_Open_empty (d : Nat) (lasts self : Int) (hself : goodB self = true) (w : World) (hd : DiskAt w d [] lasts false) :
    Calls Try.prog 10 #[rptr d, .int .u8 self] w fun e w' => e = .returned (.tuple #[.pointer none, .int .i64 7]) ∧ DiskSame w d [] w' := by
  go_enter Try.func10, Try.ntmps10
  go_wp2_with fail
  refine (acceptor_good self _).mono ?_
  rintro e w0 ⟨rfl, rfl⟩
  rw [hself]
  go_wp2_with fail
  refine (journal_Open d [] lasts _ hd (fun r hr => by cases hr) (by simp [diskBytes])).mono ?_
  rintro e w1 ⟨v1, rfl, hj1, hd1, hf1, hnv1, hk1⟩
  go_wp2_with fail
  refine (journal_Records _ d v1 [] false _ hj1 (by simp)).mono ?_
  rintro e w2 ⟨v2, rfl, ho2, hf2, hb2⟩
  obtain ⟨p2, cap2, rfl⟩ := ho2.form
  go_wp2
  go_ret2
  exact ⟨rfl, hd1.below hb2, hk1.then (T := fun _ => False) (Kp.of_below hb2) (fun _ _ f => f.elim)⟩
theorem acceptor_Open_other (d : Nat) (self other : Int) (ho : goodB other = true) (hne : ¬ self = other) (v0 : View) (lasts : Int) (w : World) (hd : DiskAt w d (diskBytes (texts [.birth self v0])) lasts false) (hl : Fits [.birth self v0]) :
    Calls Try.prog 10 #[rptr d, .int .u8 other] w fun e w' => e = .returned (.tuple #[.pointer none, .int .i64 4]) ∧ DiskSame w d (diskBytes (texts [.birth self v0])) w' := by
  have hfit := hl (.birth self v0) (by simp)
  have hdl := disk_len hl
  go_enter Try.func10, Try.ntmps10
  go_wp2_with fail
  refine (acceptor_good other _).mono ?_
  rintro e w0 ⟨rfl, rfl⟩
  rw [ho]
  go_wp2_with fail
  refine (journal_Open d (texts [.birth self v0]) lasts _ hd hl.ok (by simp at hdl; omega)).mono ?_
  rintro e w1 ⟨v1, rfl, hj1, hd1, hf1, hnv1, hk1⟩
  go_wp2_with fail
  refine (journal_Records _ d v1 (texts [.birth self v0]) false _ hj1 (by simp [texts])).mono ?_
  rintro e w2 ⟨v2, rfl, ho2, hf2, hb2⟩
  obtain ⟨p2, cap2, rfl⟩ := ho2.form
  obtain ⟨g2, o2, rfl, hnc2, hcm2, hg2, hcell2⟩ := ho2.rd.place (by simp [texts])
  have hc0 : w2.cell? ⟨g2, o2, none⟩ = some (str (Rec.birth self v0).bytes) := by
    have := hcell2 0 (str (Rec.birth self v0).bytes) (by simp [strCells, texts])
    simpa using this
  have htl : (texts [Rec.birth self v0]).length = 1 := by simp [texts]
  rw [htl]
  go_wp2_with fail
  refine (acceptor_owner self hfit.1 v0 hfit.2 _).mono ?_
  rintro e w3 ⟨rfl, hb3⟩
  go_wp2
  go_ret2
  exact ⟨rfl, (hd1.below hb2).below hb3, (hk1.then (T := fun _ => False) (Kp.of_below hb2) (fun _ _ f => f.elim)).then (T := fun _ => False) (Kp.of_below hb3) (fun _ _ f => f.elim)⟩
end Go.Proofs.Ytlpnomejpaoeaaa
