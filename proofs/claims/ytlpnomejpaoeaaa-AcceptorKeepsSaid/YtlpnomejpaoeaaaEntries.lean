/- The acceptor's map of entries: maps.DeleteFunc over it, with the closure of cut. -/
import Derived.Test.YtlpnomejpaoeaaaMaps2
import Derived.Test.YtlpnomejpaoeaaaJournal3
import Derived.Deep.LoopGhost
import Derived.Maps.RangeWalk
namespace Go.Proofs.Ytlpnomejpaoeaaa
set_option linter.unusedSimpArgs false
set_option linter.unusedVariables false
open Go.RowKit
set_option maxHeartbeats 400000
set_option maxRecDepth 20000

/-- An entry's eight cells. -/
abbrev entCells (x : Entry) : Array Value := #[.int .u32 x.slot, .int .u32 x.b.n, .int .u8 x.b.by_, .int .u8 x.c.kind, .int .u8 x.c.node, .int .u8 x.c.life, .int .u32 x.c.epoch, .int .u32 x.c.req]
theorem entCells_one (x : Entry) : ∀ v ∈ (entCells x).toList, v.oneCell' = true := by
  intro v hv
  simp only [entCells, List.mem_cons, List.not_mem_nil, or_false] at hv
  rcases hv with rfl | rfl | rfl | rfl | rfl | rfl | rfl | rfl <;> rfl
/-- Entries as a map by slots holds them. -/
def entMap (l : List Entry) : List (Int × Value) := l.map fun x => (x.slot, .agg (entCells x))
theorem st_entry : StT Try.prog 58 8 := StT.mk' Try.underlying58 rfl (by kernel_rfl)
theorem mp_entries : MpT Try.prog 97 28 58 .u32 (.agg #[.int .u32 0, .int .u32 0, .int .u8 0, .int .u8 0, .int .u8 0, .int .u8 0, .int .u32 0, .int .u32 0]) :=
  ⟨Try.underlying97, Try.underlying28, fun w => by kernel_rfl⟩

theorem acceptor_cut1 (key : Int) (x : Entry) (cb A : Nat) (low : Int) (w : World) (h0 : w.cell? ⟨cb, 0, none⟩ = some (.pointer (some ⟨A, 1, none⟩))) (h1 : w.cell? ⟨A, 3, none⟩ = some (.int .u32 low)) :
    Calls Try.prog 83 #[.int .u32 key, .agg (entCells x), .pointer (some ⟨cb, 0, none⟩)] w fun e w' => e = .returned (.bool (decide (key < low))) ∧ Below w.heap.size w w' := by
  have hb := below_alloc w (.cells (entCells x) 58)
  have g0 := cell_keep hb h0
  have g1 := cell_keep hb h1
  have Hb := hid hb
  clear hb
  go_enter Try.func83, Try.ntmps83
  go_wp2
  go_ret
  exact ⟨rfl, Hb.out⟩

/-- What is left of a list while its elements are looked at. -/
def during (l todo : List Entry) (pr : Entry → Bool) : List Entry := l.filter fun x => todo.any (fun y => y.slot == x.slot) || !pr x

theorem entMap_split {todo : List Entry} {t1 t2 : List (Int × Value)} {p : Int × Value} (h : entMap todo = t1 ++ p :: t2) :
    ∃ a x b, todo = a ++ x :: b ∧ t1 = entMap a ∧ p = (x.slot, .agg (entCells x)) ∧ t2 = entMap b := by
  unfold entMap at h
  obtain ⟨a, r, rfl, h1, h2⟩ := List.map_eq_append_iff.1 h
  obtain ⟨x, b, rfl, h3, h4⟩ := List.map_eq_cons_iff.1 h2
  exact ⟨a, x, b, rfl, h1.symm, h3.symm, h4.symm⟩
theorem entMap_append (a b : List Entry) : entMap (a ++ b) = entMap a ++ entMap b := by simp [entMap]
theorem entMap_keys (l : List Entry) : (entMap l).map Prod.fst = l.map (·.slot) := by simp [entMap]
theorem entMap_del (l : List Entry) (s : Int) : del (entMap l) s = entMap (l.filter fun x => !(x.slot == s)) := by
  simp only [del, entMap, List.filter_map]; rfl

theorem slot_inj {l : List Entry} (hn : (l.map (·.slot)).Nodup) {x y : Entry} (hx : x ∈ l) (hy : y ∈ l) (h : x.slot = y.slot) : x = y := by
  induction l with
  | nil => cases hx
  | cons a l ih =>
    simp only [List.map_cons, List.nodup_cons] at hn
    rcases List.mem_cons.1 hx with rfl | hx' <;> rcases List.mem_cons.1 hy with rfl | hy'
    · rfl
    · exact (hn.1 (by rw [h]; exact List.mem_map_of_mem hy')).elim
    · exact (hn.1 (by rw [← h]; exact List.mem_map_of_mem hx')).elim
    · exact ih hn.2 hx' hy' 

theorem during_del {l a b : List Entry} {x : Entry} {pr : Entry → Bool} (hn : (l.map (·.slot)).Nodup) (hs : (a ++ x :: b).Sublist l) (hp : pr x = true) :
    (during l (a ++ x :: b) pr).filter (fun y => !(y.slot == x.slot)) = during l (a ++ b) pr := by
  have hnt : ((a ++ x :: b).map (·.slot)).Nodup := (hs.map _).nodup hn
  unfold during
  rw [List.filter_filter]
  refine List.filter_congr fun y hy => ?_
  have hxl : x ∈ l := hs.subset (by simp)
  by_cases he : y.slot = x.slot
  · have := slot_inj hn hy hxl he
    subst this
    have hna : (a ++ b).any (fun z => z.slot == y.slot) = false := by
      rw [List.any_eq_false]
      intro z hz
      simp only [List.map_append, List.map_cons, List.nodup_append, List.nodup_cons] at hnt
      simp only [beq_iff_eq]
      rcases List.mem_append.1 hz with hz | hz
      · exact hnt.2.2 z.slot (List.mem_map_of_mem hz) y.slot (by simp)
      · intro e; exact hnt.2.1.1 (by rw [← e]; exact List.mem_map_of_mem hz)
    simp [hp]
    simpa using hna
  · have : (y.slot == x.slot) = false := by simpa using he
    have h2 : (x.slot == y.slot) = false := by simpa using Ne.symm he
    simp [this, h2]
theorem during_keep {l a b : List Entry} {x : Entry} {pr : Entry → Bool} (hn : (l.map (·.slot)).Nodup) (hs : (a ++ x :: b).Sublist l) (hp : pr x = false) :
    during l (a ++ x :: b) pr = during l (a ++ b) pr := by
  unfold during
  refine List.filter_congr fun y hy => ?_
  have hxl : x ∈ l := hs.subset (by simp)
  by_cases he : y.slot = x.slot
  · have := slot_inj hn hy hxl he
    subst this
    simp [hp]
  · have h2 : (x.slot == y.slot) = false := by simpa using Ne.symm he
    simp [h2]
theorem during_all (l : List Entry) (pr : Entry → Bool) : during l l pr = l := by
  unfold during
  rw [List.filter_eq_self]
  intro x hx
  simp only [Bool.or_eq_true, List.any_eq_true]
  exact .inl ⟨x, hx, by simp⟩
theorem during_none (l : List Entry) (pr : Entry → Bool) : during l [] pr = l.filter fun x => !pr x := by simp [during]

set_option maxHeartbeats 1000000 in
theorem maps_DeleteFunc (b cb A : Nat) (low : Int) (l : List Entry) (w : World) (h : MapIs .u32 w b (entMap l)) (h0 : w.cell? ⟨cb, 0, none⟩ = some (.pointer (some ⟨A, 1, none⟩))) (h1 : w.cell? ⟨A, 3, none⟩ = some (.int .u32 low)) (hcb : ¬ cb = b) (hA : ¬ A = b) :
    Calls Try.prog 82 #[.map (some b), .func (.func 83) #[] #[.pointer (some ⟨cb, 0, none⟩)]] w
      fun e w' => e = .returned (.tuple #[]) ∧ MapIs .u32 w' b (entMap (l.filter fun x => !decide (x.slot < low))) ∧ Kp (fun k => k = b) w w' := by
  have hn : (l.map (·.slot)).Nodup := by have := h.nodup; rwa [entMap_keys] at this
  have Hn := hid hn
  have hblt := h.lt
  have H := hid h
  clear hn h
  go_enter Try.func82, Try.ntmps82
  go_wp2_with (refine wpList_range rfl _ rfl mp_entries b (entMap l) rfl H.out ?_; intro w1 hit hb1)
  have Hit := hid hit
  clear hit
  go_frame
  go_loopg [4] (l.length) (fun n _ wr => ∃ todo : List Entry, todo.length = n ∧ todo.Sublist l ∧ Iter .u32 wr w.heap.size b (entMap (during l todo fun x => decide (x.slot < low))) (entMap todo) ∧ Kp (fun k => k = b) w wr)
  case atStart => exact ⟨l, rfl, List.Sublist.refl _, by rw [during_all]; exact Hit.out, Kp.of_below hb1⟩
  case round =>
    obtain ⟨todo, htl, hsub, hit, hkp⟩ := hrel
    cases todo with
    | nil =>
      have Hi := hid hit
      clear hit Hit
      go_wp2_with (refine wpList_next_nil rfl _ rfl _ b _ rfl Hi.out ?_)
      go_end0
      have := Hi.out.map
      rw [during_none] at this
      exact ⟨rfl, this, hkp⟩
    | cons y todo =>
      have hne : entMap (y :: todo) ≠ [] := by simp [entMap]
      generalize y :: todo = td at *
      have Hi := hid hit
      have Hne := hid hne
      clear hit hne Hit
      go_wp2_with (first | (refine wpList_next_some rfl _ rfl _ b _ _ rfl Hi.out Hne.out ?_; intro t1 p t2 w2 hsp hcur hk2; obtain ⟨ta, x, tb, htd, rfl, rfl, rfl⟩ := entMap_split hsp; clear hsp) | (refine wpList_entry rfl _ rfl _ b _ _ _ rfl hcur ?_))
      have hcb1 := hkp.size
      have hlt0 : ¬ cb = w.heap.size := by
        rcases Nat.lt_or_ge cb w.heap.size with h | h
        · omega
        · simp [World.cell?, Array.getElem?_eq_none h] at h0
      have hlt1 : ¬ A = w.heap.size := by
        rcases Nat.lt_or_ge A w.heap.size with h | h
        · omega
        · simp [World.cell?, Array.getElem?_eq_none h] at h1
      have g0 := cell_keep (below_alloc w2 (.cells (entCells x) 58)) (cell_kp hk2 hlt0 (cell_kp hkp hcb h0))
      have g1 := cell_keep (below_alloc w2 (.cells (entCells x) 58)) (cell_kp hk2 hlt1 (cell_kp hkp hA h1))
      refine (acceptor_cut1 x.slot x cb A low _ g0 g1).mono ?_
      rintro e w3 ⟨rfl, hb3⟩
      have hb23 : Below w2.heap.size w2 w3 := pu_trans (below_alloc _ _) hb3
      have hcur3 := hcur.kept (S := fun _ => False) (Kp.of_below hb23) (fun f => f) (fun f => f)
      have hnt : gk = (ta ++ x :: tb).length := by rw [← htd]; exact htl.symm
      have hsub' : (ta ++ x :: tb).Sublist l := by rw [← htd]; exact hsub
      have hsub2 : (ta ++ tb).Sublist l := List.Sublist.trans ((List.Sublist.refl ta).append (List.sublist_cons_self x tb)) hsub'
      have hk3 : Kp (fun k => k = b) w w3 := (hkp.then hk2 (fun k hk e => by have : k = w.heap.size := e; omega)).then (T := fun _ => False) (Kp.of_below hb23) (fun _ _ f => f.elim)
      rw [htd] at hcur3
      have Hcur3 := hid hcur3
      clear hcur hcur3 g0 g1 hb3
      by_cases hp : x.slot < low
      · have hpd : decide (x.slot < low) = true := by simpa using hp
        rw [hpd]
        go_wp2_with (refine wpList_delete_cur rfl _ _ rfl mp_entries _ b _ _ _ rfl rfl Hcur3.out ?_; intro w4 hit4 hk4)
        go_roundg (gk - 1)
        case measure => rw [hnt, List.length_append, List.length_cons]; omega
        case rel => exact ⟨ta ++ tb, by rw [hnt]; simp, hsub2, by
          rw [entMap_del, during_del Hn.out hsub' hpd, ← entMap_append] at hit4
          exact hit4, hk3.trans hk4⟩
      · have hpd : decide (x.slot < low) = false := by simpa using hp
        rw [hpd]
        go_wp2
        go_roundg (gk - 1)
        case measure => rw [hnt, List.length_append, List.length_cons]; omega
        case rel => exact ⟨ta ++ tb, by rw [hnt]; simp, hsub2, by
          have := Hcur3.out.iter
          rw [during_keep Hn.out hsub' hpd, ← entMap_append] at this
          exact this, hk3⟩
end Go.Proofs.Ytlpnomejpaoeaaa
