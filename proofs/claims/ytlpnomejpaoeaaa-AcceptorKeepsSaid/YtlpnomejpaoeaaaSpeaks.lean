/- The law's first question: does an acceptor speak? -/
import Derived.Test.YtlpnomejpaoeaaaEq
import Derived.Test.YtlpnomejpaoeaaaRef4
namespace Go.Proofs.Ytlpnomejpaoeaaa
set_option linter.unusedSimpArgs false
set_option linter.unusedVariables false
open Go.RowKit
set_option maxHeartbeats 400000
set_option maxRecDepth 20000

theorem cell_keep9 {W W' : World} (hb : Below W.heap.size W W') {a0 a1 a2 a3 a4 a5 a6 a7 a8 : Addr} {v0 v1 v2 v3 v4 v5 v6 v7 v8 : Value} (h : W.cell? a0 = some v0 ∧ W.cell? a1 = some v1 ∧ W.cell? a2 = some v2 ∧ W.cell? a3 = some v3 ∧ W.cell? a4 = some v4 ∧ W.cell? a5 = some v5 ∧ W.cell? a6 = some v6 ∧ W.cell? a7 = some v7 ∧ W.cell? a8 = some v8) :
    W'.cell? a0 = some v0 ∧ W'.cell? a1 = some v1 ∧ W'.cell? a2 = some v2 ∧ W'.cell? a3 = some v3 ∧ W'.cell? a4 = some v4 ∧ W'.cell? a5 = some v5 ∧ W'.cell? a6 = some v6 ∧ W'.cell? a7 = some v7 ∧ W'.cell? a8 = some v8 :=
  ⟨cell_keep hb h.1, cell_keep hb h.2.1, cell_keep hb h.2.2.1, cell_keep hb h.2.2.2.1, cell_keep hb h.2.2.2.2.1, cell_keep hb h.2.2.2.2.2.1, cell_keep hb h.2.2.2.2.2.2.1, cell_keep hb h.2.2.2.2.2.2.2.1, cell_keep hb h.2.2.2.2.2.2.2.2⟩

def spokeV : View := firstView 2 1
def spokeX : Entry := ⟨0, ⟨1, 2⟩, lawCmd 9⟩
def spokeL : List Rec := [.birth 1 spokeV]
theorem spokeV_good : spokeV.good := firstView_good 2 (by omega) 1 (by omega)
theorem spokeL_fits : Fits spokeL := fun r hr => by
  simp only [spokeL, List.mem_cons, List.not_mem_nil, or_false] at hr
  subst hr
  exact ⟨by omega, spokeV_good⟩
theorem spokeX_fits : spokeX.fits := ⟨by decide, by simp [spokeX, Ballot.fits], lawCmd_fits 9 (by omega)⟩
theorem spokeL2_fits : Fits (spokeL ++ [.accept spokeX]) := fun r hr => by
  rcases List.mem_append.1 hr with hr | hr
  · exact spokeL_fits r hr
  · simp only [List.mem_cons, List.not_mem_nil, or_false] at hr
    subst hr
    exact spokeX_fits

set_option maxHeartbeats 1000000 in
theorem law_speaks (w : World) : Calls Try.prog 6 #[] w fun e w' => e = .returned (.bool true) ∧ Below w.heap.size w w' := by
  go_enter Try.func6, Try.ntmps6
  go_wp2_with fail
  refine (disk_New _).mono ?_
  rintro e w1 ⟨rfl, hw1⟩
  have hb1 : Below w.heap.size w w1 := by rw [← hw1]; exact below_alloc _ _
  have hd1 : DiskAt w1 w.heap.size [] 0 false := by rw [← hw1]; exact alloc_new _ _
  clear hw1
  go_wp2_with fail
  refine (view_First 2 (by omega) _).mono ?_
  rintro e w2 ⟨s2, rfl, ho2, hf2, hk2⟩
  have hb2 := pu_trans hb1 hk2
  have hd2 := hd1.below hk2
  obtain ⟨p2, c2, rfl⟩ := ho2.form
  have hl1 := hd1.lt
  have Ho2 := hid ho2
  have Hd2 := hid hd2
  clear ho2 hd1 hd2 hk2
  go_wp2_with fail
  have hsd : ¬ (Value.slice p2 2 c2).ownBlock = some w.heap.size := fun e => by have := hf2 _ e; omega
  refine (acceptor_Make w.heap.size 1 (by omega) spokeV spokeV_good _ 0 _ (Hd2.out.below (below_alloc _ _)) (Ho2.out.rd.below (below_alloc _ _)) hsd).mono ?_
  rintro e w3 ⟨rfl, hd3, hk3⟩
  have hb3 : Below w.heap.size w w3 := below_kp (pu_alloc hb2 _) hk3 (fun k e => by have : k = w.heap.size := e; omega)
  go_wp2_with fail
  refine (acceptor_Open w.heap.size 1 (by omega) spokeV [] _ _ hd3 spokeL_fits (by simp)).mono ?_
  rintro e w4 ⟨a, rfl, had, hA4, hk4, hK4, hs4⟩
  have hb4 : Below w.heap.size w w4 := below_kp hb3 hk4 (fun k e => by have : k = w.heap.size := e; omega)
  have hKw : ∀ k, a.K k → w.heap.size ≤ k := fun k hk => by rcases hK4 k hk with e | e; omega; have := hb3.size; omega
  go_wp2_with fail
  refine (law_ballot 1 2 _).mono ?_
  rintro e w5 ⟨rfl, hk5⟩
  go_wp2_with fail
  refine (law_command 9 (by omega) _).mono ?_
  rintro e w6 ⟨rfl, hk6⟩
  have hb6 := pu_trans (pu_trans hb4 hk5) hk6
  have hA6 := (hA4.below hk5).below hk6
  go_wp2_with fail
  refine (acceptor_Accept a spokeL ⟨1, 2⟩ spokeX_fits.2.1 0 (by omega) (lawCmd 9) (lawCmd_fits 9 (by omega)) _ hA6 spokeL_fits (by simp [spokeL]) rfl).mono ?_
  rintro e w7 ⟨a7, rfl, hA7, hn7, hk7⟩
  have hb7 : Below w.heap.size w w7 := below_kp hb6 hk7 hKw
  have hKw7 : ∀ k, a7.K k → w.heap.size ≤ k := fun k hk => by rcases hn7.K k hk with e | e; exact hKw k e; have := hb6.size; omega
  go_wp2_with fail
  refine (law_ballot 2 1 _).mono ?_
  rintro e w8 ⟨rfl, hk8⟩
  have hb8 := pu_trans hb7 hk8
  have hA8 := hA7.below hk8
  rw [← hn7.A]
  go_wp2_with fail
  refine (acceptor_Prepare a7 (spokeL ++ [.accept spokeX]) ⟨2, 1⟩ (by simp [Ballot.fits]) 0 _ hA8 spokeL2_fits (by simp [spokeL]) rfl).mono ?_
  rintro e w9 ⟨a9, v9, out, rfl, hA9, hn9, hk9, hef, hrd9, hf9⟩
  have hout : out = [spokeX] := List.perm_singleton.1 hef.1
  subst hout
  have hb9 : Below w.heap.size w w9 := below_kp hb8 hk9 hKw7
  have Hrd9 := hid hrd9
  obtain ⟨p9, c9, rfl⟩ := hrd9.form
  have hA9' := hid hA9
  clear hA9 hef hrd9 hA8 hA7 hA6 hA4 hd3 hf9
  rw [← hn9.A]
  go_wp2_with fail
  refine (acceptor_Base a9.A a9.j _ _ _ _ hA9'.out.acc (by decide)).mono ?_
  intro e w10 hrb
  replace hrb : RetBase 0 spokeV w9 e w10 := hrb
  obtain ⟨s10, rfl, ho10, hf10, hk10⟩ := hrb
  have hb10 := pu_trans hb9 hk10
  obtain ⟨p10, c10, rfl⟩ := ho10.form
  obtain ⟨g, o, rfl, hnc, hcm, hg, hcell⟩ := (Hrd9.out.below hk10).place (by simp)
  have hm2 : spokeV.members.length = 2 := rfl
  rw [hm2] at ho10 hf10
  rw [hm2]
  have d1 : (w10.alloc (.cells (viewCells spokeV (.slice p10 2 c10)) 32)).cell? ⟨w10.heap.size, 1, none⟩ = some (.slice p10 2 c10) := by rw [cell_of (alloc_new w10 _)]; rfl
  have k0 : (w10.alloc (.cells (viewCells spokeV (.slice p10 2 c10)) 32)).cell? ⟨g, o, none⟩ = some (.int .u32 0) := cell_keep (below_alloc _ _) (hcell 0 (.int .u32 0) rfl)
  have k1 : (w10.alloc (.cells (viewCells spokeV (.slice p10 2 c10)) 32)).cell? ⟨g, o + 1, none⟩ = some (.int .u32 1) := cell_keep (below_alloc _ _) (hcell 1 (.int .u32 1) rfl)
  have k2 : (w10.alloc (.cells (viewCells spokeV (.slice p10 2 c10)) 32)).cell? ⟨g, o + 2, none⟩ = some (.int .u8 2) := cell_keep (below_alloc _ _) (hcell 2 (.int .u8 2) rfl)
  have k3 : (w10.alloc (.cells (viewCells spokeV (.slice p10 2 c10)) 32)).cell? ⟨g, o + 3, none⟩ = some (.int .u8 (lawCmd 9).kind) := cell_keep (below_alloc _ _) (hcell 3 (.int .u8 (lawCmd 9).kind) rfl)
  have k4 : (w10.alloc (.cells (viewCells spokeV (.slice p10 2 c10)) 32)).cell? ⟨g, o + 4, none⟩ = some (.int .u8 (lawCmd 9).node) := cell_keep (below_alloc _ _) (hcell 4 (.int .u8 (lawCmd 9).node) rfl)
  have k5 : (w10.alloc (.cells (viewCells spokeV (.slice p10 2 c10)) 32)).cell? ⟨g, o + 5, none⟩ = some (.int .u8 (lawCmd 9).life) := cell_keep (below_alloc _ _) (hcell 5 (.int .u8 (lawCmd 9).life) rfl)
  have k6 : (w10.alloc (.cells (viewCells spokeV (.slice p10 2 c10)) 32)).cell? ⟨g, o + 6, none⟩ = some (.int .u32 (lawCmd 9).epoch) := cell_keep (below_alloc _ _) (hcell 6 (.int .u32 (lawCmd 9).epoch) rfl)
  have k7 : (w10.alloc (.cells (viewCells spokeV (.slice p10 2 c10)) 32)).cell? ⟨g, o + 7, none⟩ = some (.int .u32 (lawCmd 9).req) := cell_keep (below_alloc _ _) (hcell 7 (.int .u32 (lawCmd 9).req) rfl)
  have hbW := pu_alloc hb10 (.cells (viewCells spokeV (.slice p10 2 c10)) 32)
  have HbW := hid hbW
  clear hbW
  have heq : ∀ W : World, (Op.equalIn 10000 58 (.agg #[.int .u32 0, .int .u32 1, .int .u8 2, .int .u8 (lawCmd 9).kind, .int .u8 (lawCmd 9).node, .int .u8 (lawCmd 9).life, .int .u32 (lawCmd 9).epoch, .int .u32 (lawCmd 9).req]) (.agg #[.int .u32 0, .int .u32 1, .int .u8 2, .int .u8 (lawCmd 9).kind, .int .u8 (lawCmd 9).node, .int .u8 (lawCmd 9).life, .int .u32 (lawCmd 9).epoch, .int .u32 (lawCmd 9).req])).run Try.prog W = .ok true W := fun W => eq_entry spokeX spokeX W
  go_wp2_with fail
  generalize hW : World.alloc w10 _ = W at *
  go_region_held3 (fun w' => w'.cell? ⟨w10.heap.size, 1, none⟩ = some (.slice p10 2 c10) ∧ w'.cell? ⟨g, o, none⟩ = some (.int .u32 0) ∧ w'.cell? ⟨g, o + 1, none⟩ = some (.int .u32 1) ∧ w'.cell? ⟨g, o + 2, none⟩ = some (.int .u8 2) ∧ w'.cell? ⟨g, o + 3, none⟩ = some (.int .u8 (lawCmd 9).kind) ∧ w'.cell? ⟨g, o + 4, none⟩ = some (.int .u8 (lawCmd 9).node) ∧ w'.cell? ⟨g, o + 5, none⟩ = some (.int .u8 (lawCmd 9).life) ∧ w'.cell? ⟨g, o + 6, none⟩ = some (.int .u32 (lawCmd 9).epoch) ∧ w'.cell? ⟨g, o + 7, none⟩ = some (.int .u32 (lawCmd 9).req)) (first | (apply cell_keep9 <;> assumption) | go_keep) (first | (go_at_call 11; refine (law_ballot 1 2 _).mono ?_; rintro e w11 ⟨rfl, hk11⟩) | (go_at_call 18; refine (law_command 9 (by omega) _).mono ?_; rintro e w12 ⟨rfl, hk12⟩))
  all_goals
    go_wp2
    go_ret
    exact ⟨rfl, pu_trans (pu_trans (pu_drew HbW.out) hk11) hk12⟩
end Go.Proofs.Ytlpnomejpaoeaaa
