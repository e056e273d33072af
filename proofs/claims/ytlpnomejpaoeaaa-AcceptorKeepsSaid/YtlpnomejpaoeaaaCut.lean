/- Package acceptor: cut. -/
import Derived.Test.YtlpnomejpaoeaaaState
import Derived.BigRegion
import Derived.Deep.RegionHeld3
namespace Go.Proofs.Ytlpnomejpaoeaaa
set_option linter.unusedSimpArgs false
set_option linter.unusedVariables false
open Go.RowKit
set_option maxHeartbeats 400000
set_option maxRecDepth 20000

def St.cut (st : St) (low : Int) (base : View) : St := { st with low := max st.low low, base := base, ents := st.ents.filter fun x => !decide (x.slot < max st.low low) }

theorem drew_heap (w : World) : w.drew.heap = w.heap := rfl
theorem setCell_at {w : World} {b i : Nat} {c c' : Array Value} {t : TypeId} {f : Nat × Nat} (h : w.heap[b]? = some (.cells c t f)) (u : Value) (hc : c.setIfInBounds i u = c') :
    (w.setCell ⟨b, i, none⟩ u).heap[b]? = some (.cells c' t f) := hc ▸ setCell_self h u
theorem cut_at {W : World} {A j m : Nat} {p : Ballot} {low0 low : Int} {x0 x : View} {s s2 : Value} (hA : W.heap[A]? = some (.cells (accArr j p low0 x0 s m) 101 (0, 0))) :
    ((((((((((((W.setCell ⟨A, 3, none⟩ (.int .u32 low)).setCell ⟨A, 4, none⟩ (.int .u32 x.epoch)).setCell ⟨A, 5, none⟩ (s2)).setCell ⟨A, 6, none⟩ (.int .u8 (x.l 0))).setCell ⟨A, 7, none⟩ (.int .u8 (x.l 1))).setCell ⟨A, 8, none⟩ (.int .u8 (x.l 2))).setCell ⟨A, 9, none⟩ (.int .u8 (x.l 3))).setCell ⟨A, 10, none⟩ (.int .u8 (x.l 4))).setCell ⟨A, 11, none⟩ (.int .u8 (x.l 5))).setCell ⟨A, 12, none⟩ (.int .u8 (x.l 6))).setCell ⟨A, 13, none⟩ (.int .u8 (x.l 7))).drew).heap[A]? = some (.cells (accArr j p low x s2 m) 101 (0, 0)) := by
  have h0 := setCell_at (i := 3) hA (.int .u32 low) (c' := #[rptr j, .int .u32 p.n, .int .u8 p.by_, .int .u32 low, .int .u32 x0.epoch, s, .int .u8 (x0.l 0), .int .u8 (x0.l 1), .int .u8 (x0.l 2), .int .u8 (x0.l 3), .int .u8 (x0.l 4), .int .u8 (x0.l 5), .int .u8 (x0.l 6), .int .u8 (x0.l 7), .map (some m)]) rfl
  have h1 := setCell_at (i := 4) h0 (.int .u32 x.epoch) (c' := #[rptr j, .int .u32 p.n, .int .u8 p.by_, .int .u32 low, .int .u32 x.epoch, s, .int .u8 (x0.l 0), .int .u8 (x0.l 1), .int .u8 (x0.l 2), .int .u8 (x0.l 3), .int .u8 (x0.l 4), .int .u8 (x0.l 5), .int .u8 (x0.l 6), .int .u8 (x0.l 7), .map (some m)]) rfl
  have h2 := setCell_at (i := 5) h1 (s2) (c' := #[rptr j, .int .u32 p.n, .int .u8 p.by_, .int .u32 low, .int .u32 x.epoch, s2, .int .u8 (x0.l 0), .int .u8 (x0.l 1), .int .u8 (x0.l 2), .int .u8 (x0.l 3), .int .u8 (x0.l 4), .int .u8 (x0.l 5), .int .u8 (x0.l 6), .int .u8 (x0.l 7), .map (some m)]) rfl
  have h3 := setCell_at (i := 6) h2 (.int .u8 (x.l 0)) (c' := #[rptr j, .int .u32 p.n, .int .u8 p.by_, .int .u32 low, .int .u32 x.epoch, s2, .int .u8 (x.l 0), .int .u8 (x0.l 1), .int .u8 (x0.l 2), .int .u8 (x0.l 3), .int .u8 (x0.l 4), .int .u8 (x0.l 5), .int .u8 (x0.l 6), .int .u8 (x0.l 7), .map (some m)]) rfl
  have h4 := setCell_at (i := 7) h3 (.int .u8 (x.l 1)) (c' := #[rptr j, .int .u32 p.n, .int .u8 p.by_, .int .u32 low, .int .u32 x.epoch, s2, .int .u8 (x.l 0), .int .u8 (x.l 1), .int .u8 (x0.l 2), .int .u8 (x0.l 3), .int .u8 (x0.l 4), .int .u8 (x0.l 5), .int .u8 (x0.l 6), .int .u8 (x0.l 7), .map (some m)]) rfl
  have h5 := setCell_at (i := 8) h4 (.int .u8 (x.l 2)) (c' := #[rptr j, .int .u32 p.n, .int .u8 p.by_, .int .u32 low, .int .u32 x.epoch, s2, .int .u8 (x.l 0), .int .u8 (x.l 1), .int .u8 (x.l 2), .int .u8 (x0.l 3), .int .u8 (x0.l 4), .int .u8 (x0.l 5), .int .u8 (x0.l 6), .int .u8 (x0.l 7), .map (some m)]) rfl
  have h6 := setCell_at (i := 9) h5 (.int .u8 (x.l 3)) (c' := #[rptr j, .int .u32 p.n, .int .u8 p.by_, .int .u32 low, .int .u32 x.epoch, s2, .int .u8 (x.l 0), .int .u8 (x.l 1), .int .u8 (x.l 2), .int .u8 (x.l 3), .int .u8 (x0.l 4), .int .u8 (x0.l 5), .int .u8 (x0.l 6), .int .u8 (x0.l 7), .map (some m)]) rfl
  have h7 := setCell_at (i := 10) h6 (.int .u8 (x.l 4)) (c' := #[rptr j, .int .u32 p.n, .int .u8 p.by_, .int .u32 low, .int .u32 x.epoch, s2, .int .u8 (x.l 0), .int .u8 (x.l 1), .int .u8 (x.l 2), .int .u8 (x.l 3), .int .u8 (x.l 4), .int .u8 (x0.l 5), .int .u8 (x0.l 6), .int .u8 (x0.l 7), .map (some m)]) rfl
  have h8 := setCell_at (i := 11) h7 (.int .u8 (x.l 5)) (c' := #[rptr j, .int .u32 p.n, .int .u8 p.by_, .int .u32 low, .int .u32 x.epoch, s2, .int .u8 (x.l 0), .int .u8 (x.l 1), .int .u8 (x.l 2), .int .u8 (x.l 3), .int .u8 (x.l 4), .int .u8 (x.l 5), .int .u8 (x0.l 6), .int .u8 (x0.l 7), .map (some m)]) rfl
  have h9 := setCell_at (i := 12) h8 (.int .u8 (x.l 6)) (c' := #[rptr j, .int .u32 p.n, .int .u8 p.by_, .int .u32 low, .int .u32 x.epoch, s2, .int .u8 (x.l 0), .int .u8 (x.l 1), .int .u8 (x.l 2), .int .u8 (x.l 3), .int .u8 (x.l 4), .int .u8 (x.l 5), .int .u8 (x.l 6), .int .u8 (x0.l 7), .map (some m)]) rfl
  have h10 := setCell_at (i := 13) h9 (.int .u8 (x.l 7)) (c' := #[rptr j, .int .u32 p.n, .int .u8 p.by_, .int .u32 low, .int .u32 x.epoch, s2, .int .u8 (x.l 0), .int .u8 (x.l 1), .int .u8 (x.l 2), .int .u8 (x.l 3), .int .u8 (x.l 4), .int .u8 (x.l 5), .int .u8 (x.l 6), .int .u8 (x.l 7), .map (some m)]) rfl
  rw [drew_heap]
  exact h10
theorem cut_kp (W : World) (A : Nat) (low : Int) (x : View) (s2 : Value) :
    Kp (fun k => k = A) W ((((((((((((W.setCell ⟨A, 3, none⟩ (.int .u32 low)).setCell ⟨A, 4, none⟩ (.int .u32 x.epoch)).setCell ⟨A, 5, none⟩ (s2)).setCell ⟨A, 6, none⟩ (.int .u8 (x.l 0))).setCell ⟨A, 7, none⟩ (.int .u8 (x.l 1))).setCell ⟨A, 8, none⟩ (.int .u8 (x.l 2))).setCell ⟨A, 9, none⟩ (.int .u8 (x.l 3))).setCell ⟨A, 10, none⟩ (.int .u8 (x.l 4))).setCell ⟨A, 11, none⟩ (.int .u8 (x.l 5))).setCell ⟨A, 12, none⟩ (.int .u8 (x.l 6))).setCell ⟨A, 13, none⟩ (.int .u8 (x.l 7))).drew) :=
  ((((((((((((Kp.refl (fun k => k = A) W).trans (only_set _ A 3 _)).trans (only_set _ A 4 _)).trans (only_set _ A 5 _)).trans (only_set _ A 6 _)).trans (only_set _ A 7 _)).trans (only_set _ A 8 _)).trans (only_set _ A 9 _)).trans (only_set _ A 10 _)).trans (only_set _ A 11 _)).trans (only_set _ A 12 _)).trans (only_set _ A 13 _)).drew
theorem cut_end {A j : Nat} {st : St} {s s2 : Value} {m : Nat} {low L : Int} {x : View} {w Y w3 : World} (H : AccAt w A j st s m) (hx : Rd w 3 s2 x.members.length (memCells x.members)) (h2A : ¬ s2.ownBlock = some A) (h2m : ¬ s2.ownBlock = some m) (hL : max st.low low = L)
    (hY : Y.heap[A]? = some (.cells (accArr j st.p L x s2 m) 101 (0, 0))) (hk : Kp (fun k => k = A) w Y) (hm : MapIs .u32 w3 m (entMap (st.ents.filter fun x => !decide (x.slot < L)))) (hk3 : Kp (fun k => k = m) Y w3) :
    AccAt w3 A j (st.cut low x) s2 m ∧ Kp (fun k => k = A ∨ k = m) w w3 := by
  subst hL
  have hx3 := (hx.kept hk (fun k hs e => h2A (by rw [← e]; exact hs))).kept hk3 (fun k hs e => h2m (by rw [← e]; exact hs))
  exact ⟨⟨hk3.heap hY H.am, hx3, hm, H.am, h2A, h2m⟩, (hk.mono (fun k _ e => .inl e)).then hk3 (fun k _ e => .inr e)⟩

set_option maxHeartbeats 2000000 in
theorem state_cut (A j : Nat) (st : St) (s s2 : Value) (m : Nat) (low : Int) (x : View) (w : World) (h : AccAt w A j st s m) (hx : Rd w 3 s2 x.members.length (memCells x.members)) (h2A : ¬ s2.ownBlock = some A) (h2m : ¬ s2.ownBlock = some m) :
    Calls Try.prog 69 #[sptr A, .int .u32 low, .agg (viewCells x s2)] w fun e w' => e = .returned (.tuple #[]) ∧ AccAt w' A j (st.cut low x) s2 m ∧ Kp (fun k => k = A ∨ k = m) w w' := by
  have H := hid h
  have hlt := h.lt
  obtain ⟨ps, cap, rfl⟩ := hx.form
  have h3 : w.cell? ⟨A, 3, none⟩ = some (.int .u32 st.low) := by rw [cell_of h.at_]; rfl
  have hm0 : w.cell? ⟨A, 14, none⟩ = some (.map (some m)) := by rw [cell_of h.at_]; rfl
  have hB : Below w.heap.size w ((w.alloc (.cells #[sptr A] 132)).alloc (.cells (viewCells x (.slice ps x.members.length cap)) 32)) := pu_alloc (pu_alloc (pu_refl w) _) _
  have HB := hid hB
  have g0 : ((w.alloc (.cells #[sptr A] 132)).alloc (.cells (viewCells x (.slice ps x.members.length cap)) 32)).heap[w.heap.size]? = some (.cells #[sptr A] 132 (0, 0)) := alloc_old (alloc_new w _)
  have g1 : ((w.alloc (.cells #[sptr A] 132)).alloc (.cells (viewCells x (.slice ps x.members.length cap)) 32)).heap[w.heap.size + 1]? = some (.cells (viewCells x (.slice ps x.members.length cap)) 32 (0, 0)) := by
    have := alloc_new (w.alloc (.cells #[sptr A] 132)) (.cells (viewCells x (.slice ps x.members.length cap)) 32)
    simpa using this
  have f1 := hB.block _ hlt
  clear h hB
  go_enter Try.func69, Try.ntmps69
  go_wp2_with fail
  generalize hW : World.alloc (World.alloc w _) _ = W at *
  have k0 : W.cell? ⟨w.heap.size, 0, none⟩ = some (sptr A) := by rw [cell_of g0]; rfl
  have k3 : W.cell? ⟨A, 3, none⟩ = some (.int .u32 st.low) := by rw [HB.out.cell (p := ⟨A, 3, none⟩) hlt]; exact h3
  have km : W.cell? ⟨A, 14, none⟩ = some (.map (some m)) := by rw [HB.out.cell (p := ⟨A, 14, none⟩) hlt]; exact hm0
  have kA := f1.trans H.out.at_
  have ka := free_of kA 3
  have kf : ∀ i, W.frozen? ⟨A, i, none⟩ = false := free_of kA
  have ka3 := kf 3
  have ka4 := kf 4
  have ka5 := kf 5
  have ka6 := kf 6
  have ka7 := kf 7
  have ka8 := kf 8
  have ka9 := kf 9
  have ka10 := kf 10
  have ka11 := kf 11
  have ka12 := kf 12
  have ka13 := kf 13
  have hsl : ∀ i v, (accArr j st.p st.low st.base s m)[i]? = some v → W.cell? ⟨A, i, none⟩ = some v := fun i v hv => by rw [cell_of kA]; exact hv
  have c4 := hsl 4 _ rfl
  have c5 := hsl 5 _ rfl
  have c6 := hsl 6 _ rfl
  have c7 := hsl 7 _ rfl
  have c8 := hsl 8 _ rfl
  have c9 := hsl 9 _ rfl
  have c10 := hsl 10 _ rfl
  have c11 := hsl 11 _ rfl
  have c12 := hsl 12 _ rfl
  have c13 := hsl 13 _ rfl
  have hent : ∀ i v, (viewCells x (.slice ps x.members.length cap))[i]? = some v → W.cell? ⟨w.heap.size + 1, i, none⟩ = some v := fun i v hv => by rw [cell_of g1]; exact hv
  have e0 := hent 0 _ rfl
  have e1 := hent 1 _ rfl
  have e2 := hent 2 _ rfl
  have e3 := hent 3 _ rfl
  have e4 := hent 4 _ rfl
  have e5 := hent 5 _ rfl
  have e6 := hent 6 _ rfl
  have e7 := hent 7 _ rfl
  have e8 := hent 8 _ rfl
  have e9 := hent 9 _ rfl
  have hAx : ¬ A = w.heap.size + 1 := by omega
  have hmne : ¬ w.heap.size = m := fun e => by have := H.out.map.lt; omega
  have hA0 : ¬ A = w.heap.size := by omega
  clear hent hsl ka
  by_cases hlo : st.low < low
  · clear kf
    go_region
    generalize hYw : World.drew _ = Y
    have hY : Y.heap[A]? = some (.cells (accArr j st.p low x (.slice ps x.members.length cap) m) 101 (0, 0)) := by rw [← hYw]; exact cut_at kA
    have hkY : Kp (fun k => k = A) W Y := by rw [← hYw]; exact cut_kp _ _ _ _ _
    have hg0 : Y.heap[w.heap.size]? = some (.cells #[sptr A] 132 (0, 0)) := hkY.heap g0 (by omega)
    have hkW : Kp (fun k => k = A) w W := Kp.of_below HB.out
    have hkwY : Kp (fun k => k = A) w Y := hkW.trans hkY
    have hmY : MapIs .u32 Y m (entMap st.ents) := H.out.map.kept hkwY (fun e => H.out.am e.symm)
    have y0 : Y.cell? ⟨w.heap.size, 0, none⟩ = some (sptr A) := by rw [cell_of hg0]; rfl
    have y3 : Y.cell? ⟨A, 3, none⟩ = some (.int .u32 low) := by rw [cell_of hY]; rfl
    have ym : Y.cell? ⟨A, 14, none⟩ = some (.map (some m)) := by rw [cell_of hY]; rfl
    clear k0 k3 km ka3 ka4 ka5 ka6 ka7 ka8 ka9 ka10 ka11 ka12 ka13 c4 c5 c6 c7 c8 c9 c10 c11 c12 c13 e0 e1 e2 e3 e4 e5 e6 e7 e8 e9
    go_wp2_with fail
    refine (maps_DeleteFunc m w.heap.size A low st.ents _ hmY y0 y3 hmne H.out.am).mono ?_
    rintro e w3 ⟨rfl, hm3, hk3⟩
    obtain ⟨hA3, hK3⟩ := cut_end (L := low) (low := low) H.out hx h2A h2m (by omega) hY hkwY hm3 hk3
    go_wp2
    go_end0
    exact ⟨rfl, hA3, hK3⟩
  · clear kf
    go_region
    generalize hYw : World.drew _ = Y
    have hY : Y.heap[A]? = some (.cells (accArr j st.p st.low x (.slice ps x.members.length cap) m) 101 (0, 0)) := by rw [← hYw]; exact cut_at kA
    have hkY : Kp (fun k => k = A) W Y := by rw [← hYw]; exact cut_kp _ _ _ _ _
    have hg0 : Y.heap[w.heap.size]? = some (.cells #[sptr A] 132 (0, 0)) := hkY.heap g0 (by omega)
    have hkW : Kp (fun k => k = A) w W := Kp.of_below HB.out
    have hkwY : Kp (fun k => k = A) w Y := hkW.trans hkY
    have hmY : MapIs .u32 Y m (entMap st.ents) := H.out.map.kept hkwY (fun e => H.out.am e.symm)
    have y0 : Y.cell? ⟨w.heap.size, 0, none⟩ = some (sptr A) := by rw [cell_of hg0]; rfl
    have y3 : Y.cell? ⟨A, 3, none⟩ = some (.int .u32 st.low) := by rw [cell_of hY]; rfl
    have ym : Y.cell? ⟨A, 14, none⟩ = some (.map (some m)) := by rw [cell_of hY]; rfl
    clear k0 k3 km ka3 ka4 ka5 ka6 ka7 ka8 ka9 ka10 ka11 ka12 ka13 c4 c5 c6 c7 c8 c9 c10 c11 c12 c13 e0 e1 e2 e3 e4 e5 e6 e7 e8 e9
    go_wp2_with fail
    refine (maps_DeleteFunc m w.heap.size A st.low st.ents _ hmY y0 y3 hmne H.out.am).mono ?_
    rintro e w3 ⟨rfl, hm3, hk3⟩
    obtain ⟨hA3, hK3⟩ := cut_end (L := st.low) (low := low) H.out hx h2A h2m (by omega) hY hkwY hm3 hk3
    go_wp2
    go_end0
    exact ⟨rfl, hA3, hK3⟩
end Go.Proofs.Ytlpnomejpaoeaaa
