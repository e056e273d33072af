/- The law AcceptorKeeps. -/
import Derived.Test.YtlpnomejpaoeaaaOps
import Derived.Deep.DeepCutAuto
import Derived.Deep.Cut
import Derived.Deep.CutBlock
namespace Go.Proofs.Ytlpnomejpaoeaaa
set_option linter.unusedSimpArgs false
set_option linter.unusedVariables false
open Go.RowKit
set_option maxHeartbeats 400000
set_option maxRecDepth 100000

/-- What AcceptorKeeps has behind an act. -/
structure KeepsMid (w wx : World) (A : Nat) (st : St) (g9 : Nat) (v : Value) (out : List Entry) (k : Nat) (acc : Bool) (slot : Int) (a : Ac) (l : List Rec) : Prop where
  law : LawSt w wx a l (k + 1)
  A : a.A = A
  box : wx.heap[g9]? = some (.cells (balArr st.p) 42 (0, 0))
  rd : Rd wx 8 v out.length (entsCells out)
  p : (replay l).p.below st.p = false
  low : st.low ≤ (replay l).low
  stays : Stays st (replay l) acc slot
theorem tmod_bd (n m : Int) (h : 0 < m) : -m < n.tmod m ∧ n.tmod m < m := ⟨Int.lt_tmod_of_pos n h, Int.tmod_lt_of_pos n h⟩
theorem below_refl (p : Ballot) : p.below p = false := by simp [Ballot.below]

set_option maxHeartbeats 8000000 in
theorem keeps_walk (l : List LawAct) (hl : ∀ x ∈ l, x.fits) (v : Value) (w : World) (hv : ActsAt w v l) (hn : l.length ≤ maxLen) :
    Calls Try.prog 3 #[v] w fun e w' => e = .returned (.bool true) ∧ Below w.heap.size w w' := by
  obtain ⟨p, cap, rfl, hv⟩ := hv
  unfold maxLen at hn
  have Hv := hid hv
  have Hl := hid hl
  clear hv hl
  go_enter Try.func3, Try.ntmps3
  go_wp2_with fail
  refine (law_speaks _).mono ?_
  rintro e w0 ⟨rfl, hk0⟩
  go_wp2_with fail
  refine (disk_New _).mono ?_
  rintro e w1 ⟨rfl, hw1⟩
  have hb1 : Below w.heap.size w w1 := by rw [← hw1]; exact pu_alloc hk0 _
  have hd1 : DiskAt w1 w0.heap.size [] 0 false := by rw [← hw1]; exact alloc_new _ _
  have hdw : w.heap.size ≤ w0.heap.size := hk0.size
  generalize w0.heap.size = d at *
  clear hw1 hk0
  go_wp2_with fail
  refine (law_viewOf 1 (by omega) _).mono ?_
  rintro e w2 ⟨s2, rfl, ho2, hf2, hk2⟩
  have hd2 := hd1.below hk2
  have hb2 := pu_trans hb1 hk2
  have hd1lt := hd1.lt
  have Hs2 : Hid (¬ s2.ownBlock = some d) := hid (fun e => by have := hf2 _ e; omega)
  have Ho2 := hid ho2.rd
  clear hb1 hd1 ho2 hf2 hk2
  go_wp2_with fail
  refine (acceptor_Make d 1 (by omega) (lawView 1) (lawView_good 1 (by omega)) s2 _ _ hd2 Ho2.out Hs2.out).mono ?_
  rintro e w3 ⟨rfl, hd3, hk3⟩
  have hb3 := below_kp hb2 hk3 (fun k e => by have : k = d := e; omega)
  clear hb2 hd2 hk3 Ho2 Hs2
  go_wp2_with fail
  refine (acceptor_Open d 1 (by omega) (lawView 1) [] _ _ hd3 (birth_fits 1 1 (by omega) (by omega)) (by simp)).mono ?_
  rintro e w4 ⟨x, rfl, had, hA, hk4, hK, hs⟩
  have HS : Hid (LawSt w w4 x [.birth 1 (lawView 1)] 0) := hid (LawSt.opened (by omega) (by omega) hb3 hdw hA hk4 hK hs)
  obtain ⟨A, hxA⟩ : ∃ A, x.A = A := ⟨_, rfl⟩
  rw [hxA]
  have HxA := hid hxA
  clear hb3 hd3 had hA hk4 hK hs hxA
  go_wp2_with fail
  go_loopw [6] (fun i wr => ∃ (k : Nat) (a : Ac) (r : List Rec), k ≤ 50 ∧ i = .int .i64 k ∧ Hid (a.A = A) ∧ Hid (LawSt w wr a r k)) (fun i _ => 50 - (intOf i).toNat)
  case atStart => exact ⟨0, x, _, by omega, rfl, HxA, HS⟩
  case round =>
    obtain ⟨k, a, r, hk, rfl, HA, HR⟩ := hrel
    clear HS HxA
    by_cases hlt : k < l.length ∧ k < 50
    · obtain ⟨hlt, hlt50⟩ := hlt
      have hi1 : (k : Int) < l.length := by omega
      have hi2 : (k : Int) < 50 := by omega
      obtain ⟨g, o, rfl, hnc, hcm, hgl, -⟩ := (Hv.out (by omega)).place (by omega)
      have hx := Hl.out l[k] (List.getElem_mem hlt)
      have hbw := HR.out.below
      have c0 : wr.cell? ⟨g, o + k * 5, none⟩ = some (.int .i64 l[k].what) := act_cells (Hv.out (by omega)) hbw hlt (i := 0) (by omega) rfl
      have c1 : wr.cell? ⟨g, o + k * 5 + 1, none⟩ = some (.int .u32 l[k].n) := act_cells (Hv.out (by omega)) hbw hlt (i := 1) (by omega) rfl
      have c2 : wr.cell? ⟨g, o + k * 5 + 2, none⟩ = some (.int .u8 l[k].by_) := act_cells (Hv.out (by omega)) hbw hlt (i := 2) (by omega) rfl
      have c3 : wr.cell? ⟨g, o + k * 5 + 3, none⟩ = some (.int .u32 l[k].slot) := act_cells (Hv.out (by omega)) hbw hlt (i := 3) (by omega) rfl
      have c4 : wr.cell? ⟨g, o + k * 5 + 4, none⟩ = some (.int .u32 l[k].c) := act_cells (Hv.out (by omega)) hbw hlt (i := 4) (by omega) rfl
      generalize l[k] = x at *
      clear hbw
      go_wp2_with fail
      refine (law_ballot x.n x.by_ _).mono ?_
      rintro e w5 ⟨rfl, hk5⟩
      have HR5 := hid (HR.out.under (pu_trans (below_alloc wr (.cells (actArr x) 38)) hk5))
      have hg7 := (hk5.block _ (by simp)).trans (alloc_new wr (.cells (actArr x) 38))
      have h7lt := lt_of_block hg7
      have Hg7 := hid hg7
      have h7w := HR.out.below.size
      clear c0 c1 c2 c3 c4 hk5 hg7
      go_wp2_with fail
      refine (st_Promised HA.out (HR5.out.under (below_alloc _ _))).mono ?_
      rintro e w6 ⟨rfl, hk6⟩
      have HR6 := hid (HR5.out.under (pu_trans (below_alloc w5 (.cells (balArr ⟨x.n, x.by_⟩) 42)) hk6))
      have Hg7 := hid ((hk6.block _ (by simp; omega)).trans (alloc_old (x := .cells (balArr ⟨x.n, x.by_⟩) 42) Hg7.out))
      have Hg8 := hid ((hk6.block _ (by simp)).trans (alloc_new w5 (.cells (balArr ⟨x.n, x.by_⟩) 42)))
      have h8lt := lt_of_block Hg8.out
      clear hk6
      go_wp2_with fail
      refine (st_Entries HA.out HR6.out (by omega) 0).mono ?_
      rintro e w7 ⟨ve, out, hout, rfl, hrd, hfr, hk7⟩
      have HR7 := hid (HR6.out.under hk7)
      have Hg7 := hid ((hk7.block _ (lt_of_block Hg7.out)).trans Hg7.out)
      have Hg8 := hid ((hk7.block _ (lt_of_block Hg8.out)).trans Hg8.out)
      have Hout := hid hout
      have Hrd := hid hrd
      have hz7 := hk7.size
      clear hk7 hout hrd
      go_wp2_with fail
      refine (st_Base HA.out (HR7.out.under (below_alloc _ _))).mono ?_
      intro e w8 hrb
      replace hrb : RetBase (replay r).low (replay r).base (w7.alloc (.cells (balArr (replay r).p) 42)) e w8 := hrb
      obtain ⟨s8, rfl, ho8, hf8, hk8⟩ := hrb
      obtain ⟨p8, c8, rfl⟩ := ho8.form
      have HR8 := hid (HR7.out.under (pu_trans (below_alloc w7 (.cells (balArr (replay r).p) 42)) hk8))
      have Hg7 := hid ((hk8.block _ (by have := lt_of_block Hg7.out; simp; omega)).trans (alloc_old (x := .cells (balArr (replay r).p) 42) Hg7.out))
      have Hg8 := hid ((hk8.block _ (by have := lt_of_block Hg8.out; simp; omega)).trans (alloc_old (x := .cells (balArr (replay r).p) 42) Hg8.out))
      have Hg9 := hid ((hk8.block _ (by simp)).trans (alloc_new w7 (.cells (balArr (replay r).p) 42)))
      have Hrd := hid (Hrd.out.below (pu_trans (below_alloc w7 (.cells (balArr (replay r).p) 42)) hk8))
      clear hk8 ho8 hf8
      have h8lt := lt_of_block Hg8.out
      have h9lt := lt_of_block Hg9.out
      have htm := tmod_bd x.what 3 (by omega)
      have hq : (x.what.tmod 3 + 3) % 3 = 0 ∨ (x.what.tmod 3 + 3) % 3 = 1 ∨ (x.what.tmod 3 + 3) % 3 = 2 := by omega
      have hw7 := lt_of_block Hg7.out
      have q7 : w8.cell? ⟨wr.heap.size, 0, none⟩ = some (.int .i64 x.what) := cell_at Hg7.out 0 _ rfl
      go_upto_block 2 with fail
      generalize (x.what.tmod 3 + 3) % 3 = q at *
      have HR9 := hid (HR8.out.under (below_alloc w8 (.cells (viewCells (replay r).base (.slice p8 (replay r).base.members.length c8)) 32)))
      have Hg7 := hid (alloc_old (x := .cells (viewCells (replay r).base (.slice p8 (replay r).base.members.length c8)) 32) Hg7.out)
      have Hg8 := hid (alloc_old (x := .cells (viewCells (replay r).base (.slice p8 (replay r).base.members.length c8)) 32) Hg8.out)
      have Hg9 := hid (alloc_old (x := .cells (viewCells (replay r).base (.slice p8 (replay r).base.members.length c8)) 32) Hg9.out)
      have Hrd := hid (Hrd.out.below (below_alloc w8 (.cells (viewCells (replay r).base (.slice p8 (replay r).base.members.length c8)) 32)))
      have HO7 : Hid (Off a wr.heap.size) := hid (HR.out.is.off_new (Nat.le_refl _))
      have HO8 : Hid (Off a w5.heap.size) := hid (HR5.out.is.off_new (Nat.le_refl _))
      have HO9 : Hid (Off a w7.heap.size) := hid (HR7.out.is.off_new (Nat.le_refl _))
      have HOe : Hid (∀ k, ve.ownBlock = some k → Off a k) := hid (fun k e => HR6.out.is.off_new (hfr k e))
      have hve : ∃ pe ce, ve = .slice pe out.length ce := Hrd.out.form
      obtain ⟨pe, ce, rfl⟩ := hve
      generalize World.alloc w8 _ = W at *
      generalize hg7 : wr.heap.size = g7 at *
      generalize hg8 : w5.heap.size = g8 at *
      generalize hg9 : w7.heap.size = g9 at *
      have hg7w : w.heap.size ≤ g7 := by rw [← hg7]; exact HR.out.below.size
      have hR0 := (HR.out.small (by omega)).1
      have HSt : Hid (∀ e ∈ (replay r).ents, 0 ≤ e.slot) := hid (fun e he => (HR.out.ok.ents e he).1.1)
      have H0 := HSt
      clear HR HR5 HR6 HR7 HR8 hg7 hg8 hg9 hfr hz7 h7lt h8lt h9lt
      have c3 : W.cell? ⟨g7, 3, none⟩ = some (.int .u32 x.slot) := cell_at Hg7.out 3 _ rfl
      have c4 : W.cell? ⟨g7, 4, none⟩ = some (.int .u32 x.c) := cell_at Hg7.out 4 _ rfl
      have b0 : W.cell? ⟨g8, 0, none⟩ = some (.int .u32 x.n) := cell_at Hg8.out 0 _ rfl
      have b1 : W.cell? ⟨g8, 1, none⟩ = some (.int .u8 x.by_) := cell_at Hg8.out 1 _ rfl
      have z0 : W.cell? ⟨g9, 0, none⟩ = some (.int .u32 (replay r).p.n) := cell_at Hg9.out 0 _ rfl
      have z1 : W.cell? ⟨g9, 1, none⟩ = some (.int .u8 (replay r).p.by_) := cell_at Hg9.out 1 _ rfl
      have hl7 := lt_of_block Hg7.out
      have hl8 := lt_of_block Hg8.out
      have hl9 := lt_of_block Hg9.out
      clear q7 hw7
      go_cut [13, 14] (fun s13 s14 wx => ∃ (a' : Ac) (r' : List Rec) (acc : Bool) (slot : Int), s13 = .int .u32 slot ∧ s14 = .bool acc ∧ Hid (KeepsMid w wx A (replay r) g9 (.slice pe out.length ce) out k acc slot a' r'))
      case first =>
        rcases hq with rfl | rfl | rfl
        · go_wp2_with fail
          by_cases hp : prepErr (replay r) ⟨x.n, x.by_⟩ x.slot = 0
          · refine (st_Prepare HA.out HR9.out (by omega) ⟨x.n, x.by_⟩ hx.b x.slot hp).mono ?_
            rintro e wA ⟨a', r', v', out', rfl, hT, hre, -, -, hfr', -⟩
            have hb := (prepErr_ok hp).1
            have HT := hid hT
            have hp' : (replay r').p = ⟨x.n, x.by_⟩ := by rw [hre]
            have Hre := hid hre
            have Hp' := hid hp'
            have y0 := cell_at (HT.out.heap HO8.out Hg8.out) 0 _ rfl
            have y1 := cell_at (HT.out.heap HO8.out Hg8.out) 1 _ rfl
            have y2 := cell_at (HT.out.heap HO9.out Hg9.out) 0 _ rfl
            have y3 := cell_at (HT.out.heap HO9.out Hg9.out) 1 _ rfl
            have heq : ∀ W : World, (Op.equalIn 10000 42 (.agg (balArr (replay r').p)) (.agg #[.int .u32 x.n, .int .u8 x.by_])).run Try.prog W = .ok true W := fun W => by rw [Hp'.out]; have := eq_ballot x.n x.by_ x.n x.by_ 9997 W; simpa using this
            clear hT hre hp'
            go_wp2_with fail
            go_region_held3 (fun w' => w'.cell? ⟨g8, 0, none⟩ = some (.int .u32 x.n) ∧ w'.cell? ⟨g8, 1, none⟩ = some (.int .u8 x.by_) ∧ w'.cell? ⟨g9, 0, none⟩ = some (.int .u32 (replay r).p.n) ∧ w'.cell? ⟨g9, 1, none⟩ = some (.int .u8 (replay r).p.by_)) (first | (apply cell_keep4 <;> assumption) | go_keep) (first | (go_at_call 16; refine (mark_Below ⟨x.n, x.by_⟩ (replay r).p _).mono ?_; rintro e wB ⟨rfl, hkB⟩; rw [hb]) | (go_at_call 12; refine (st_Promised HT.out.A (HT.out.law.under (pu_trans (pu_drew (pu_refl wA)) hkB))).mono ?_; rintro e wC ⟨rfl, hkC⟩))
            have hbC : Below wA.heap.size wA wC := pu_trans (pu_trans (pu_drew (pu_refl wA)) hkB) hkC
            have hbox := (hbC.block _ (lt_of_block (HT.out.heap HO9.out Hg9.out))).trans (HT.out.heap HO9.out Hg9.out)
            have hrdC := (Hrd.out.kept HT.out.kp (fun k hk => (HOe.out k hk).K)).below hbC
            go_wp2_with fail
            go_meet
            exact ⟨a', r', false, 0, rfl, rfl, hid ⟨HT.out.law.under hbC, HT.out.A, hbox, hrdC, by rw [Hre.out]; exact hb, by rw [Hre.out]; exact Int.le_refl _, Stays.same (by rw [Hre.out]) _ _⟩⟩
          · refine (st_Prepare_no HA.out HR9.out ⟨x.n, x.by_⟩ x.slot hp).mono ?_
            rintro e wA ⟨rfl, hkA⟩
            have hp' : (prepErr (replay r) ⟨x.n, x.by_⟩ x.slot == 0) = false := by simpa using hp
            go_wp2_with fail
            go_quiet (fail)
            all_goals
              have hbC : Below W.heap.size W (wA.drewN nq) := pu_drewN hkA nq
              have hbox := (hbC.block _ (lt_of_block Hg9.out)).trans Hg9.out
              go_wp2_with fail
              go_meet
              exact ⟨a, r, false, 0, rfl, rfl, hid ⟨(HR9.out.under hbC).up (by omega), HA.out, hbox, Hrd.out.below hbC, below_refl _, Int.le_refl _, Stays.same rfl _ _⟩⟩
        · by_cases he : acceptErr (replay r) ⟨x.n, x.by_⟩ x.slot = 0
          · have hb := (acceptErr_ok he).1
            have hsl := (acceptErr_ok he).2
            have hsl' : decide (x.slot < (replay r).low) = false := by simp; omega
            go_wp2_with fail
            go_region_held3 (fun w' => w'.cell? ⟨g8, 0, none⟩ = some (.int .u32 x.n) ∧ w'.cell? ⟨g8, 1, none⟩ = some (.int .u8 x.by_) ∧ w'.cell? ⟨g7, 4, none⟩ = some (.int .u32 x.c)) (first | (apply cell_keep3 <;> assumption) | (refine ⟨?_, ?_, ?_⟩ <;> assumption) | go_keep) (first | (go_at_call 18; refine (law_command x.c hx.c _).mono ?_; rintro e wB ⟨rfl, hkB⟩) | (go_at_call 17; refine (st_Accept HA.out (HR9.out.under (pu_trans (pu_drew (pu_refl W)) hkB)) (by omega) ⟨x.n, x.by_⟩ hx.b x.slot hx.slot (lawCmd x.c) (lawCmd_fits x.c hx.c) he).mono ?_; rintro e wC ⟨a', r', rfl, hT, hre, -⟩; have HT := hid hT; have Hre := hid hre; have hbB : Below W.heap.size W wB := pu_trans (pu_drew (pu_refl W)) hkB; have H8 := hid (HT.out.heap HO8.out ((hbB.block _ hl8).trans Hg8.out)); have H7 := hid (HT.out.heap HO7.out ((hbB.block _ hl7).trans Hg7.out)); have H9 := hid (HT.out.heap HO9.out ((hbB.block _ hl9).trans Hg9.out)); have y0 := cell_at H8.out 0 _ rfl; have y1 := cell_at H8.out 1 _ rfl; have y2 := cell_at H7.out 4 _ rfl; clear hT hre))
            have hrdC := (Hrd.out.below hbB).kept HT.out.kp (fun k hk => (HOe.out k hk).K)
            have y3 := cell_at H9.out 0 _ rfl
            have y4 := cell_at H9.out 1 _ rfl
            clear c3 c4 b0 b1 z0 z1
            go_wp2_with fail
            refine (mark_Below ⟨x.n, x.by_⟩ (replay r).p _).mono ?_
            rintro e wD ⟨rfl, hkD⟩
            rw [hb]
            go_wp2_with fail
            go_meet
            exact ⟨a', r', true, x.slot, rfl, rfl, hid ⟨HT.out.law.under hkD, HT.out.A, (hkD.block _ (lt_of_block H9.out)).trans H9.out, hrdC.below hkD, by rw [Hre.out]; exact hi_ge HR9.out.ok.p hx.b, by rw [Hre.out]; exact Int.le_refl _, by rw [Hre.out]; exact Stays.accept HR9.out.inv _ _⟩⟩
          · have he' : (acceptErr (replay r) ⟨x.n, x.by_⟩ x.slot == 0) = false := by simpa using he
            go_wp2_with fail
            go_region_held3 (fun w' => w'.cell? ⟨g8, 0, none⟩ = some (.int .u32 x.n) ∧ w'.cell? ⟨g8, 1, none⟩ = some (.int .u8 x.by_) ∧ w'.cell? ⟨g7, 4, none⟩ = some (.int .u32 x.c)) (first | (apply cell_keep3 <;> assumption) | go_keep) (first | (go_at_call 18; refine (law_command x.c hx.c _).mono ?_; rintro e wB ⟨rfl, hkB⟩) | (go_at_call 17; refine (st_Accept_no HA.out (HR9.out.under (pu_trans (pu_drew (pu_refl W)) hkB)) ⟨x.n, x.by_⟩ x.slot hx.slot (lawCmd x.c) he).mono ?_; rintro e wC ⟨rfl, hkC⟩))
            have hbC : Below W.heap.size W wC := pu_trans (pu_trans (pu_drew (pu_refl W)) hkB) hkC
            have hbox := (hbC.block _ (lt_of_block Hg9.out)).trans Hg9.out
            go_wp2_with fail
            go_meet
            exact ⟨a, r, false, x.slot, rfl, rfl, hid ⟨(HR9.out.under hbC).up (by omega), HA.out, hbox, Hrd.out.below hbC, below_refl _, Int.le_refl _, Stays.same rfl _ _⟩⟩
        · go_wp2_with fail
          by_cases he : (replay r).low < x.slot
          · go_region_held3 (fun w' => w'.cell? ⟨g7, 3, none⟩ = some (.int .u32 x.slot) ∧ w'.cell? ⟨g7, 4, none⟩ = some (.int .u32 x.c)) (first | (apply cell_keep2 <;> assumption) | (refine ⟨?_, ?_⟩ <;> assumption) | go_keep) (first | (go_at_call 9; refine (law_viewOf x.c hx.c _).mono ?_; rintro e wB ⟨sB, rfl, hoB, hfB, hkB⟩) | (go_at_call 19; refine (st_Truncate HA.out (HR9.out.under (pu_trans (pu_drew (pu_refl W)) hkB)) (by omega) x.slot hx.slot (lawView x.c) (lawView_good x.c hx.c) sB hoB.rd he).mono ?_; rintro e wC ⟨a', r', rfl, hT, hre, -⟩; have HT := hid hT; have Hre := hid hre; have hbB : Below W.heap.size W wB := pu_trans (pu_drew (pu_refl W)) hkB; have H7 := hid (HT.out.heap HO7.out ((hbB.block _ hl7).trans Hg7.out)); have H9 := hid (HT.out.heap HO9.out ((hbB.block _ hl9).trans Hg9.out)); have y0 := cell_at H7.out 3 _ rfl; have y1 := cell_at H7.out 4 _ rfl; clear hT hre))
            have hrdC := (Hrd.out.below hbB).kept HT.out.kp (fun k hk => (HOe.out k hk).K)
            go_wp2_with fail
            go_meet
            exact ⟨a', r', false, 0, rfl, rfl, hid ⟨HT.out.law, HT.out.A, H9.out, hrdC, by rw [Hre.out]; exact below_refl _, by rw [Hre.out]; simp only [St.cut]; omega, by rw [Hre.out]; exact Stays.cut _ _ _ _ _⟩⟩
          · go_region_held3 (fun w' => w'.cell? ⟨g7, 3, none⟩ = some (.int .u32 x.slot) ∧ w'.cell? ⟨g7, 4, none⟩ = some (.int .u32 x.c)) (first | (apply cell_keep2 <;> assumption) | (refine ⟨?_, ?_⟩ <;> assumption) | go_keep) (first | (go_at_call 9; refine (law_viewOf x.c hx.c _).mono ?_; rintro e wB ⟨sB, rfl, hoB, hfB, hkB⟩) | (go_at_call 19; refine (st_Truncate_no HA.out (HR9.out.under (pu_trans (pu_drew (pu_refl W)) hkB)) x.slot (lawView x.c) (lawView_good x.c hx.c).2 sB hoB.rd (by omega)).mono ?_; rintro e wC ⟨rfl, hkC⟩))
            have hbC : Below W.heap.size W wC := pu_trans (pu_trans (pu_drew (pu_refl W)) hkB) hkC
            have hbox := (hbC.block _ (lt_of_block Hg9.out)).trans Hg9.out
            go_wp2_with fail
            go_meet
            exact ⟨a, r, false, 0, rfl, rfl, hid ⟨(HR9.out.under hbC).up (by omega), HA.out, hbox, Hrd.out.below hbC, below_refl _, Int.le_refl _, Stays.same rfl _ _⟩⟩
      case rest =>
        obtain ⟨a', r', acc, slot, rfl, rfl, HM⟩ := hcut
        have HM' := HM
        clear c3 c4 b0 b1 z0 z1 HR9 Hg7 Hg8 Hg9 Hrd HO7 HO8 HO9 HOe hl7 hl8 hl9 htm hg7w HA HM'
        go_wp2_with fail
        refine (st_Base HM.out.A HM.out.law).mono ?_
        intro e wb hrb
        replace hrb : RetBase (replay r').low (replay r').base wc e wb := hrb
        obtain ⟨sb, rfl, hob, hfb, hkb⟩ := hrb
        obtain ⟨pb, cb, rfl⟩ := hob.form
        have hkb' := pu_alloc hkb (.cells (viewCells (replay r').base (.slice pb (replay r').base.members.length cb)) 32)
        clear hob hfb
        go_wp2_with fail
        generalize World.alloc wb _ = W2 at *
        have hbox := (hkb'.block _ (lt_of_block HM.out.box)).trans HM.out.box
        have HL2 := hid (HM.out.law.under hkb')
        have HR2 := hid (HM.out.rd.below hkb')
        have z0 : W2.cell? ⟨g9, 0, none⟩ = some (.int .u32 (replay r).p.n) := cell_at hbox 0 _ rfl
        have z1 : W2.cell? ⟨g9, 1, none⟩ = some (.int .u8 (replay r).p.by_) := cell_at hbox 1 _ rfl
        have hfz : ∀ W : World, (Instr.field 42 (.agg (balArr (replay r').p)) 0).run Try.prog W = .ok (.agg #[.int .u32 (replay r').p.n, .int .u8 (replay r').p.by_]) W := fun W => run_field_mark _ _ W
        have hpp := HM.out.p
        have hll0 := HM.out.low
        have hll : decide ((replay r').low < (replay r).low) = false := by simp; omega
        clear hll0
        clear hkb hkb' hbox
        go_region_held3 (fun w' => w'.cell? ⟨g9, 0, none⟩ = some (.int .u32 (replay r).p.n) ∧ w'.cell? ⟨g9, 1, none⟩ = some (.int .u8 (replay r).p.by_)) (first | (apply cell_keep2 <;> assumption) | go_keep) (first | (go_at_call 12; refine (st_Promised HM.out.A (HL2.out.under (pu_drew (pu_refl W2)))).mono ?_; rintro e w31 ⟨rfl, hk31⟩) | (go_at_call 16; refine (mark_Below (replay r').p (replay r).p _).mono ?_; rintro e w32 ⟨rfl, hk32⟩; rw [hpp]) | (go_at_call 13; refine (st_Entries HM.out.A (HL2.out.under (pu_trans (pu_trans (pu_drew (pu_refl W2)) hk31) hk32)) (by omega) 0).mono ?_; rintro e w33 ⟨vE, outE, hE, rfl, hrdE, hfrE, hk33⟩; obtain ⟨pE, cE, rfl⟩ := hrdE.form; have hlen := hE.len HL2.out.inv.within; have hlen' : decide ((outE.length : Int) > 16) = false := (by simp; omega); clear hrdE hfrE hE))
        have hbE : Below W2.heap.size W2 w33 := pu_trans (pu_trans (pu_trans (pu_drew (pu_refl W2)) hk31) hk32) hk33
        have HL3 := hid (HL2.out.under hbE)
        have HR3 := hid (HR2.out.below hbE)
        clear hk31 hk32 hk33 hbE z0 z1 hfz HL2 HR2
        go_wp2_with fail
        refine (st_Entries HM.out.A HL3.out (by omega) 0).mono ?_
        rintro e w34 ⟨vn, now, hnow, rfl, hrdn, hfrn, hkn⟩
        obtain ⟨pn, cn, rfl⟩ := hrdn.form
        have HL4 := hid (HL3.out.under hkn)
        have HR4 := hid (HR3.out.below hkn)
        have HN := hid hrdn
        have Hnow := hid hnow
        have hnlen : now.length ≤ 16 := hnow.len HL3.out.inv.within
        clear hkn hrdn hnow hfrn HL3 HR3
        have holen : out.length ≤ 1000 := by
          have h1 := Hout.out.1.length_eq
          have h2 := List.length_filter_le (fromB 0) (replay r).ents
          have := hR0
          omega
        go_wp2_with fail
        go_loopw [20] (fun i2 wx => ∃ k2 : Nat, k2 ≤ out.length ∧ i2 = .int .i64 k2 ∧ Hid (Below w34.heap.size w34 wx)) (fun i2 _ => out.length - (intOf i2).toNat)
        case atStart => exact ⟨0, by omega, rfl, hid (Below.refl _ _)⟩
        case round =>
          obtain ⟨k2, hk2, rfl, hbx⟩ := hrel
          by_cases hlt2 : k2 < out.length
          · have hi3 : (k2 : Int) < out.length := by omega
            obtain ⟨g2, o2, rfl, hn2, hm2, hgl2, hc2⟩ := HR4.out.place (by omega)
            have hxe := List.getElem_mem hlt2
            have Hc2 : Hid (∀ i u, i < 8 → (encE out[k2])[i]? = some u → w34.cell? ⟨g2, o2 + k2 * 8 + i, none⟩ = some u) := hid (fun i u hi hu => by rw [Nat.add_assoc]; exact hc2 _ _ (by rw [entsCells_at out k2 i hlt2 hi]; exact hu))
            generalize out[k2] = y at *
            have hyslot := HSt.out y ((Hout.out.mem H0.out y).1 hxe)
            clear hc2
            go_wp2_with fail
            go_loopw [21, 22] (fun f j wy => ∃ j2 : Nat, j2 ≤ now.length ∧ j = .int .i64 j2 ∧ f = .bool ((now.take j2).any fun z => entEq z y) ∧ Hid (Below w34.heap.size w34 wy)) (fun _ j _ => now.length - (intOf j).toNat)
            case atStart => exact ⟨0, by omega, rfl, rfl, hbx⟩
            case round =>
              obtain ⟨j2, hj2, rfl, rfl, hby⟩ := hrel
              by_cases hlt3 : j2 < now.length
              · have hi4 : (j2 : Int) < now.length := by omega
                obtain ⟨g1, o1, rfl, hn1, hm1, hgl1, hc1⟩ := HN.out.place (by omega)
                have e1 : ∀ i u, i < 8 → (encE now[j2])[i]? = some u → wr.cell? ⟨g1, o1 + j2 * 8 + i, none⟩ = some u := fun i u hi hu => by
                  rw [hby.out.cell (p := ⟨g1, o1 + j2 * 8 + i, none⟩) hgl1, Nat.add_assoc]; exact hc1 _ _ (by rw [entsCells_at now j2 i hlt3 hi]; exact hu)
                have e2 : ∀ i u, i < 8 → (encE y)[i]? = some u → wr.cell? ⟨g2, o2 + k2 * 8 + i, none⟩ = some u := fun i u hi hu => by
                  rw [hby.out.cell (p := ⟨g2, o2 + k2 * 8 + i, none⟩) hgl2]; exact Hc2.out i u hi hu
                have hsucc : ((now.take (j2 + 1)).any fun z => entEq z y) = (((now.take j2).any fun z => entEq z y) || entEq now[j2] y) := by
                  rw [List.take_succ_eq_append_getElem hlt3, List.any_append]; simp
                generalize now[j2] = z at *
                have kq0 : wr.cell? ⟨g1, o1 + j2 * 8, none⟩ = some (.int .u32 z.slot) := e1 0 _ (by omega) rfl
                have kq1 : wr.cell? ⟨g1, o1 + j2 * 8 + 1, none⟩ = some (.int .u32 z.b.n) := e1 1 _ (by omega) rfl
                have kq2 : wr.cell? ⟨g1, o1 + j2 * 8 + 2, none⟩ = some (.int .u8 z.b.by_) := e1 2 _ (by omega) rfl
                have kq3 : wr.cell? ⟨g1, o1 + j2 * 8 + 3, none⟩ = some (.int .u8 z.c.kind) := e1 3 _ (by omega) rfl
                have kq4 : wr.cell? ⟨g1, o1 + j2 * 8 + 4, none⟩ = some (.int .u8 z.c.node) := e1 4 _ (by omega) rfl
                have kq5 : wr.cell? ⟨g1, o1 + j2 * 8 + 5, none⟩ = some (.int .u8 z.c.life) := e1 5 _ (by omega) rfl
                have kq6 : wr.cell? ⟨g1, o1 + j2 * 8 + 6, none⟩ = some (.int .u32 z.c.epoch) := e1 6 _ (by omega) rfl
                have kq7 : wr.cell? ⟨g1, o1 + j2 * 8 + 7, none⟩ = some (.int .u32 z.c.req) := e1 7 _ (by omega) rfl
                have dq0 : wr.cell? ⟨g2, o2 + k2 * 8, none⟩ = some (.int .u32 y.slot) := e2 0 _ (by omega) rfl
                have dq1 : wr.cell? ⟨g2, o2 + k2 * 8 + 1, none⟩ = some (.int .u32 y.b.n) := e2 1 _ (by omega) rfl
                have dq2 : wr.cell? ⟨g2, o2 + k2 * 8 + 2, none⟩ = some (.int .u8 y.b.by_) := e2 2 _ (by omega) rfl
                have dq3 : wr.cell? ⟨g2, o2 + k2 * 8 + 3, none⟩ = some (.int .u8 y.c.kind) := e2 3 _ (by omega) rfl
                have dq4 : wr.cell? ⟨g2, o2 + k2 * 8 + 4, none⟩ = some (.int .u8 y.c.node) := e2 4 _ (by omega) rfl
                have dq5 : wr.cell? ⟨g2, o2 + k2 * 8 + 5, none⟩ = some (.int .u8 y.c.life) := e2 5 _ (by omega) rfl
                have dq6 : wr.cell? ⟨g2, o2 + k2 * 8 + 6, none⟩ = some (.int .u32 y.c.epoch) := e2 6 _ (by omega) rfl
                have dq7 : wr.cell? ⟨g2, o2 + k2 * 8 + 7, none⟩ = some (.int .u32 y.c.req) := e2 7 _ (by omega) rfl

                have heq : ∀ W : World, (Op.equalIn 10000 58 (.agg #[.int .u32 z.slot, .int .u32 z.b.n, .int .u8 z.b.by_, .int .u8 z.c.kind, .int .u8 z.c.node, .int .u8 z.c.life, .int .u32 z.c.epoch, .int .u32 z.c.req]) (.agg #[.int .u32 y.slot, .int .u32 y.b.n, .int .u8 y.b.by_, .int .u8 y.c.kind, .int .u8 y.c.node, .int .u8 y.c.life, .int .u32 y.c.epoch, .int .u32 y.c.req])).run Try.prog W = .ok (entEq z y) W := fun W => eq_entry z y W
                have Hsucc := hid hsucc
                clear e1 e2 hc1 hsucc
                cases hfd : ((now.take j2).any fun z => entEq z y) with
                | true =>
                  have Hfd := hid hfd
                  clear hfd
                  go_wp2_with fail
                  go_quiet (fail)
                  go_wp2_with fail
                  go_roundw
                  case rel => exact ⟨j2 + 1, by omega, by go_num, by rw [Hsucc.out, Hfd.out]; rfl, hid (pu_drewN hby.out _)⟩
                  case measure => simp [intOf]; omega
                | false =>
                  have Hfd := hid hfd
                  clear hfd
                  go_wp2_with fail
                  go_quiet (fail)
                  go_wp2_with fail
                  go_roundw
                  case rel => exact ⟨j2 + 1, by omega, by go_num, by rw [Hsucc.out, Hfd.out]; rfl, hid (pu_drewN hby.out _)⟩
                  case measure => simp [intOf]; omega
              · have hj' : j2 = now.length := by omega
                have dq0 : wr.cell? ⟨g2, o2 + k2 * 8, none⟩ = some (.int .u32 y.slot) := by
                  rw [hby.out.cell (p := ⟨g2, o2 + k2 * 8, none⟩) hgl2]; exact Hc2.out 0 _ (by omega) rfl
                have hstay : (now.any fun z => entEq z y) = true ∨ (acc = true ∧ y.slot = slot) ∨ y.slot < (replay r').low := by
                  rcases HM.out.stays y ((Hout.out.mem H0.out y).1 hxe) with h | h | h
                  · exact .inl (List.any_eq_true.2 ⟨y, (Hnow.out.mem (fun e he => (HL4.out.ok.ents e he).1.1) y).2 h, (entEq_iff y y).2 rfl⟩)
                  · exact .inr (.inl h)
                  · exact .inr (.inr h)
                subst hj'
                rw [List.take_length]
                cases hfd : (now.any fun z => entEq z y) with
                | true =>
                  go_wp2_with fail
                  go_roundw
                  case rel => exact ⟨k2 + 1, by omega, by go_num, hby⟩
                  case measure => simp [intOf]; omega
                | false =>
                  rw [hfd] at hstay
                  rcases hstay with h | ⟨rfl, hs⟩ | h
                  · cases h
                  · have hs' : (y.slot == slot) = true := by simp [hs]
                    clear hs
                    go_wp2_with fail
                    go_roundw
                    case rel => exact ⟨k2 + 1, by omega, by go_num, hby⟩
                    case measure => simp [intOf]; omega
                  · have hge : decide (y.slot ≥ (replay r').low) = false := by simp; omega
                    cases acc with
                    | false =>
                      go_wp2_with fail
                      go_roundw
                      case rel => exact ⟨k2 + 1, by omega, by go_num, hby⟩
                      case measure => simp [intOf]; omega
                    | true =>
                      cases hs' : (y.slot == slot) with
                      | true =>
                        go_wp2_with fail
                        go_roundw
                        case rel => exact ⟨k2 + 1, by omega, by go_num, hby⟩
                        case measure => simp [intOf]; omega
                      | false =>
                        go_wp2_with fail
                        go_roundw
                        case rel => exact ⟨k2 + 1, by omega, by go_num, hby⟩
                        case measure => simp [intOf]; omega
          · go_wp2_with fail
            go_roundw
            case rel => exact ⟨k + 1, a', r', by omega, by go_num, hid HM.out.A, hid (HL4.out.under hbx.out)⟩
            case measure => simp [intOf]; omega
    · rcases Nat.lt_or_ge k l.length with h1 | h1
      · have h1i : (k : Int) < l.length := by omega
        have h2 : decide ((k : Int) < 50) = false := by simp; omega
        go_wp2_with fail
        go_ret
        exact ⟨rfl, HR.out.below⟩
      · have h1i : decide ((k : Int) < l.length) = false := by simp; omega
        go_wp2_with fail
        go_ret
        exact ⟨rfl, HR.out.below⟩
end Go.Proofs.Ytlpnomejpaoeaaa
