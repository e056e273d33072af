/- The law's question: are these the document's entries? -/
import Derived.Test.YtlpnomejpaoeaaaPlain
import Derived.Test.YtlpnomejpaoeaaaEq
namespace Go.Proofs.Ytlpnomejpaoeaaa
set_option linter.unusedSimpArgs false
set_option linter.unusedVariables false
open Go.RowKit
set_option maxHeartbeats 400000
set_option maxRecDepth 20000

set_option maxHeartbeats 1000000 in
theorem law_same (l : List REnt) (hl : ∀ x ∈ l, x.fits) (v u : Value) (w : World) (hv : Rd w 8 v l.length (entsCells (l.map REnt.ent))) (hu : Rd w 5 u l.length (rentCells l)) (hn : l.length ≤ 1000) :
    Calls Try.prog 25 #[v, u] w fun e w' => e = .returned (.bool true) ∧ Below w.heap.size w w' := by
  obtain ⟨p1, c1, rfl⟩ := hv.form
  obtain ⟨p2, c2, rfl⟩ := hu.form
  have Hv := hid hv
  have Hu := hid hu
  have Hl := hid hl
  clear hv hu hl
  go_enter Try.func25, Try.ntmps25
  go_wp2_with fail
  go_loopw [5] (fun i wr => ∃ k : Nat, k ≤ l.length ∧ i = .int .i64 k ∧ Below w.heap.size w wr) (fun i _ => l.length - (intOf i).toNat)
  case atStart => exact ⟨0, by omega, rfl, Below.refl _ _⟩
  case round =>
    obtain ⟨k, hk, rfl, hbw⟩ := hrel
    by_cases hlt : k < l.length
    · have hlti : (k : Int) < l.length := by omega
      obtain ⟨g1, o1, rfl, hn1, hm1, hg1, hc1⟩ := Hv.out.place (by omega)
      obtain ⟨g2, o2, rfl, hn2, hm2, hg2, hc2⟩ := Hu.out.place (by omega)
      have hx := Hl.out l[k] (List.getElem_mem hlt)
      have d1 : ∀ i u, i < 8 → (entCells (REnt.ent l[k])).toList[i]? = some u → wr.cell? ⟨g1, o1 + k * 8 + i, none⟩ = some u := fun i u hi hu => by
        rw [hbw.cell (p := ⟨g1, o1 + k * 8 + i, none⟩) hg1, Nat.add_assoc]
        exact hc1 _ _ (by rw [entsCells_at (l.map REnt.ent) k i (by simpa using hlt) hi, List.getElem_map]; exact hu)
      have d2 : ∀ i u, i < 5 → (rentArr l[k]).toList[i]? = some u → wr.cell? ⟨g2, o2 + k * 5 + i, none⟩ = some u := fun i u hi hu => by
        rw [hbw.cell (p := ⟨g2, o2 + k * 5 + i, none⟩) hg2, Nat.add_assoc]
        exact hc2 _ _ (by rw [rentCells_at l k i hlt hi]; exact hu)
      generalize l[k] = x at *
      have k0 : wr.cell? ⟨g1, o1 + k * 8, none⟩ = some (.int .u32 x.slot) := d1 0 _ (by omega) rfl
      have k1 : wr.cell? ⟨g1, o1 + k * 8 + 1, none⟩ = some (.int .u32 x.b.n) := d1 1 _ (by omega) rfl
      have k2 : wr.cell? ⟨g1, o1 + k * 8 + 2, none⟩ = some (.int .u8 x.b.by_) := d1 2 _ (by omega) rfl
      have k3 : wr.cell? ⟨g1, o1 + k * 8 + 3, none⟩ = some (.int .u8 (lawCmd x.c).kind) := d1 3 _ (by omega) rfl
      have k4 : wr.cell? ⟨g1, o1 + k * 8 + 4, none⟩ = some (.int .u8 (lawCmd x.c).node) := d1 4 _ (by omega) rfl
      have k5 : wr.cell? ⟨g1, o1 + k * 8 + 5, none⟩ = some (.int .u8 (lawCmd x.c).life) := d1 5 _ (by omega) rfl
      have k6 : wr.cell? ⟨g1, o1 + k * 8 + 6, none⟩ = some (.int .u32 (lawCmd x.c).epoch) := d1 6 _ (by omega) rfl
      have k7 : wr.cell? ⟨g1, o1 + k * 8 + 7, none⟩ = some (.int .u32 (lawCmd x.c).req) := d1 7 _ (by omega) rfl
      have q0 : wr.cell? ⟨g2, o2 + k * 5, none⟩ = some (.int .u32 x.slot) := d2 0 _ (by omega) rfl
      have q1 : wr.cell? ⟨g2, o2 + k * 5 + 1, none⟩ = some (.int .u32 x.b.n) := d2 1 _ (by omega) rfl
      have q2 : wr.cell? ⟨g2, o2 + k * 5 + 2, none⟩ = some (.int .u8 x.b.by_) := d2 2 _ (by omega) rfl
      have q4 : wr.cell? ⟨g2, o2 + k * 5 + 4, none⟩ = some (.int .u32 x.c) := d2 4 _ (by omega) rfl
      have heq : ∀ W : World, (Op.equalIn 10000 58 (.agg #[.int .u32 x.slot, .int .u32 x.b.n, .int .u8 x.b.by_, .int .u8 (lawCmd x.c).kind, .int .u8 (lawCmd x.c).node, .int .u8 (lawCmd x.c).life, .int .u32 (lawCmd x.c).epoch, .int .u32 (lawCmd x.c).req]) (.agg #[.int .u32 x.slot, .int .u32 x.b.n, .int .u8 x.b.by_, .int .u8 (lawCmd x.c).kind, .int .u8 (lawCmd x.c).node, .int .u8 (lawCmd x.c).life, .int .u32 (lawCmd x.c).epoch, .int .u32 (lawCmd x.c).req])).run Try.prog W = .ok true W := fun W => by
        have := eq_entry (REnt.ent x) (REnt.ent x) W
        rw [(entEq_iff _ _).2 rfl] at this
        exact this
      clear d1 d2 hc1 hc2
      go_wp2_with fail
      go_region_held3 (fun w' => w'.cell? ⟨g1, o1 + k * 8, none⟩ = some (.int .u32 x.slot) ∧ w'.cell? ⟨g1, o1 + k * 8 + 1, none⟩ = some (.int .u32 x.b.n) ∧ w'.cell? ⟨g1, o1 + k * 8 + 2, none⟩ = some (.int .u8 x.b.by_) ∧ w'.cell? ⟨g1, o1 + k * 8 + 3, none⟩ = some (.int .u8 (lawCmd x.c).kind) ∧ w'.cell? ⟨g1, o1 + k * 8 + 4, none⟩ = some (.int .u8 (lawCmd x.c).node) ∧ w'.cell? ⟨g1, o1 + k * 8 + 5, none⟩ = some (.int .u8 (lawCmd x.c).life) ∧ w'.cell? ⟨g1, o1 + k * 8 + 6, none⟩ = some (.int .u32 (lawCmd x.c).epoch) ∧ w'.cell? ⟨g1, o1 + k * 8 + 7, none⟩ = some (.int .u32 (lawCmd x.c).req) ∧ w'.cell? ⟨g2, o2 + k * 5, none⟩ = some (.int .u32 x.slot) ∧ w'.cell? ⟨g2, o2 + k * 5 + 1, none⟩ = some (.int .u32 x.b.n) ∧ w'.cell? ⟨g2, o2 + k * 5 + 2, none⟩ = some (.int .u8 x.b.by_) ∧ w'.cell? ⟨g2, o2 + k * 5 + 4, none⟩ = some (.int .u32 x.c)) (first | (apply cell_keep12 <;> assumption) | go_keep) (first | (go_at_call 11; refine (law_ballot x.b.n x.b.by_ _).mono ?_; rintro e w11 ⟨rfl, hk11⟩) | (go_at_call 18; refine (law_command x.c hx.2.2 _).mono ?_; rintro e w12 ⟨rfl, hk12⟩))
      all_goals
        go_wp2_with fail
        go_roundw
        case rel => exact ⟨k + 1, by omega, by go_num, pu_trans (pu_trans (pu_drew hbw) hk11) hk12⟩
        case measure => simp [intOf]; omega
    · go_wp2_with fail
      go_ret
      exact ⟨rfl, hbw⟩

end Go.Proofs.Ytlpnomejpaoeaaa
