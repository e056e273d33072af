/- The law AcceptorOwn. -/
import Derived.Test.YtlpnomejpaoeaaaNil
import Derived.Test.YtlpnomejpaoeaaaSpeaks
import Derived.Test.YtlpnomejpaoeaaaViewSame
import Derived.Deep.DeepCutAuto
import Derived.Deep.Cut
namespace Go.Proofs.Ytlpnomejpaoeaaa
open Go.RowKit
set_option maxHeartbeats 400000
set_option maxRecDepth 100000

def wideV : View := ⟨7, firstMembers 8 ++ [⟨9, 1, false⟩], firstLives 8⟩
theorem lawView7 : lawView 7 = ⟨7, firstMembers 8, firstLives 8⟩ := rfl

def makeErr (self : Int) : Int := if goodB self then 0 else 1
def ownDisk (self : Int) : Bytes := if goodB self then diskBytes (texts [.birth self (lawView 2)]) else []
/-- What the law has, behind the first questions. -/
structure OwnAt (w wx : World) (me : Int) (d g9 : Nat) (s9 : Value) : Prop where
  below : Below w.heap.size w wx
  disk : DiskAt wx d (ownDisk me) (ownDisk me).length false
  box : wx.heap[g9]? = some (.cells (viewCells wideV s9) 32 (0, 0))
  rd : Rd wx 3 s9 wideV.members.length (memCells wideV.members)
  dw : w.heap.size ≤ d
  g9w : w.heap.size ≤ g9
  dg : ¬ g9 = d
  sd : ¬ s9.ownBlock = some d

theorem OwnAt.under {w wx wy : World} {self : Int} {d g9 : Nat} {s9 : Value} (h : OwnAt w wx self d g9 s9) (hb : Below wx.heap.size wx wy) : OwnAt w wy self d g9 s9 :=
  ⟨pu_trans h.below hb, h.disk.below hb, (hb.block _ (lt_of_block h.box)).trans h.box, h.rd.below hb, h.dw, h.g9w, h.dg, h.sd⟩

theorem AcIs.redisk {w w' : World} {a : Ac} {l : List Rec} {dead off off' : Bool} (h : AcIs w a l dead off) (hk : Only a.d w w') (hd : DiskAt w' a.d (diskBytes (texts l)) (diskBytes (texts l)).length off') : AcIs w' a l dead off' :=
  ⟨h.acc.kept hk (fun e => h.Ad e) (fun e => h.md e) (fun k hk e => h.sd (by rw [← e]; exact hk)), h.jrn.kept hk (fun e => h.ap.jd e) (fun k hk e => h.ap.vd (by rw [← e]; exact hk)), hd, h.ap, h.Aj, h.Ad, h.mj, h.md, h.vA, h.vm, h.sj, h.sd, h.sv⟩
/-- The law's wide view, in its box. -/
structure BoxAt (w : World) (g : Nat) (s : Value) : Prop where
  box : w.heap[g]? = some (.cells (viewCells wideV s) 32 (0, 0))
  rd : Rd w 3 s wideV.members.length (memCells wideV.members)
theorem BoxAt.kept {S : Nat → Prop} {w w' : World} {g : Nat} {s : Value} (h : BoxAt w g s) (hk : Kp S w w') (hg : ¬ S g) (hs : ∀ k, s.ownBlock = some k → ¬ S k) : BoxAt w' g s := ⟨hk.heap h.box hg, h.rd.kept hk hs⟩
theorem BoxAt.below {w w' : World} {g : Nat} {s : Value} (h : BoxAt w g s) (hb : Below w.heap.size w w') : BoxAt w' g s := h.kept (S := fun _ => False) (Kp.of_below hb) (fun f => f) (fun _ _ f => f)
theorem run_field_mark (n y : Int) (w : World) : (Instr.field 42 (.agg #[.int .u32 n, .int .u8 y]) 0).run Try.prog w = .ok (.agg #[.int .u32 n, .int .u8 y]) w := by
  have z := fun w => st_mark.sizeOf w
  have g := fun w => st_mark.agg w
  unfold Instr.field
  simp only [Sem.run_bind, run_underlying Try.underlying42, Result.andThen_ok]
  go_simp
  rfl
theorem own_fits (me : Int) (h : 0 ≤ me ∧ me < 256) : Fits [.birth me (lawView 2)] := fun r hr => by
  simp only [List.mem_cons, List.not_mem_nil, or_false] at hr
  subst hr
  exact ⟨h, lawView_good 2 (by omega)⟩
theorem own_disk_le (me : Int) (h : 0 ≤ me ∧ me < 256) : (diskBytes (texts [.birth me (lawView 2)])).length ≤ 56 := by
  have := disk_len (own_fits me h)
  simpa using this

set_option maxHeartbeats 4000000 in
theorem own_walk (self other : Int) (hself : 0 ≤ self ∧ self < 256) (hother : 0 ≤ other ∧ other < 256) (w : World) :
    Calls Try.prog 4 #[.int .u8 self, .int .u8 other] w fun e w' => e = .returned (.bool true) ∧ Below w.heap.size w w' := by
  go_enter Try.func4, Try.ntmps4
  go_wp2_with fail
  refine (law_speaks _).mono ?_
  rintro e w0 ⟨rfl, hk0⟩
  go_wp2_with fail
  refine (disk_New _).mono ?_
  rintro e w1 ⟨rfl, hw1⟩
  have hb1 : Below w.heap.size w w1 := by rw [← hw1]; exact pu_alloc hk0 _
  have hd1 : DiskAt w1 w0.heap.size [] 0 false := by rw [← hw1]; exact alloc_new _ _
  have hdw : w.heap.size ≤ w0.heap.size := hk0.size
  generalize w0.heap.size = d at *
  clear hw1 hk0
  go_wp2_with fail
  refine (acceptor_Open_empty d 0 1 rfl _ hd1).mono ?_
  rintro e w2 ⟨rfl, hd2, hk2⟩
  have hb2 := below_kp hb1 hk2 (fun k e => by omega)
  clear hb1 hd1 hk2
  go_wp2_with fail
  refine (law_viewOf 2 (by omega) _).mono ?_
  rintro e w3 ⟨s3, rfl, ho3, hf3, hk3⟩
  have hd3 : DiskAt w3 d [] (([] : Bytes).length : Int) false := hd2.below hk3
  have hb3 := pu_trans hb2 hk3
  have hd2lt := hd2.lt
  have Hs3 : Hid (¬ s3.ownBlock = some d) := hid (fun e => by have := hf3 _ e; omega)
  have Ho3 := hid ho3.rd
  clear hb2 hd2 ho3 hf3 hk3
  go_wp2_with fail
  have hmake : Calls Try.prog 8 #[rptr d, .int .u8 self, .agg (viewCells (lawView 2) s3)] w3 fun e w' => e = .returned (.int .i64 (makeErr self)) ∧ Below w.heap.size w w' ∧ DiskAt w' d (ownDisk self) (ownDisk self).length false := by
    unfold makeErr ownDisk
    cases hg : goodB self with
    | true =>
      have : 1 ≤ self ∧ self ≤ 5 := by simpa [goodB] using hg
      refine (acceptor_Make d self this (lawView 2) (lawView_good 2 (by omega)) s3 _ w3 hd3 Ho3.out Hs3.out).mono ?_
      rintro e w' ⟨rfl, h1, h2⟩
      exact ⟨rfl, below_kp hb3 h2 (fun k e => by have : k = d := e; omega), h1⟩
    | false =>
      refine (acceptor_Make_bad self hg (rptr d) (lawView 2) s3 w3 Ho3.out).mono ?_
      rintro e w' ⟨rfl, h1⟩
      exact ⟨rfl, pu_trans hb3 h1, hd3.below h1⟩
  refine hmake.mono ?_
  rintro e w4 ⟨rfl, hb4, hd4⟩
  clear hmake hb3 hd3 Ho3 Hs3
  go_wp2_with fail
  refine (law_viewOf 7 (by omega) _).mono ?_
  rintro e w5 ⟨s5, rfl, ho5, hf5, hk5⟩
  have hd5 := hd4.below hk5
  have hb5 := pu_trans hb4 hk5
  have hd4lt := hd4.lt
  have hz5 := hk5.size
  have hb4s := hb4.size
  rw [lawView7] at ho5
  obtain ⟨p5, c5, rfl⟩ := ho5.form
  have Ho5 := hid ho5
  have Hd5 := hid hd5
  have Hb5 := hid hb5
  clear hb4 hd4 ho5 hd5 hb5
  have hm8 : (firstMembers 8).length = 8 := rfl
  go_wp2_with (first | (at_builtin; refine wpList_app rfl _ _ rfl sl_members (.slice p5 8 c5) 8 (memCells (firstMembers 8)) rfl (Ho5.out.below (pu_alloc (pu_alloc (pu_refl w5) _) _)) _ 1 _ rfl (Rd.lit _ (#[.int .u8 9, .int .u8 1, .bool false]) 61 3 1 _ (by simp) rfl (by decide)) (memCells_one [⟨9, 1, false⟩]) (by decide) (by decide) ?_; intro v6 w6 hap; obtain ⟨p6, c6, rfl⟩ := hap.own.form; have h6 := hap.kp.heap (alloc_old (alloc_new w5 (.cells (viewCells (lawView 7) (.slice p5 8 c5)) 32))) (fun e => by have := Ho5.out.lt e; omega); have f6 := free_of h6 1; have k6 := cell_at h6 1 _ rfl))
  clear f6 k6
  have hg : (World.setCell w6 ⟨w5.heap.size, 1, none⟩ (.slice p6 9 c6)).heap[w5.heap.size]? = some (.cells (viewCells wideV (.slice p6 9 c6)) 32 (0, 0)) := setCell_at h6 _ rfl
  have hkp6 : Kp (fun k => (Value.slice p5 8 c5).ownBlock = some k) w5 w6 := (Kp.of_below (pu_alloc (pu_alloc (pu_refl w5) _) _)).trans hap.kp
  have hb6 : Below w.heap.size w w6 := below_kp Hb5.out hkp6 (fun k e => by have := hf5 k e; have := hb4s; omega)
  have hbW := pu_set hb6 (p := ⟨w5.heap.size, 1, none⟩) (by simp; omega) (.slice p6 9 c6)
  have hkW : Kp (fun k => (Value.slice p5 8 c5).ownBlock = some k ∨ k = w5.heap.size) w5 (World.setCell w6 ⟨w5.heap.size, 1, none⟩ (.slice p6 9 c6)) := (hkp6.mono (fun k _ e => .inl e)).then (only_set w6 w5.heap.size 1 _) (fun k _ e => .inr e)
  have hoW := hap.own.kept (only_set w6 w5.heap.size 1 (.slice p6 9 c6)) (fun k hk e => by have e : k = w5.heap.size := e; rcases hap.at_ k hk with h | h; have := Ho5.out.lt h; omega; simp at h; omega)
  have hdW := Hd5.out.kept hkW (fun e => by rcases e with e | e; have := hf5 _ e; omega; omega)
  generalize hW : World.setCell w6 _ _ = W at *
  have HAt : OwnAt w W self d w5.heap.size (.slice p6 9 c6) := ⟨hbW, hdW, hg, hoW.rd, hdw, by omega, by omega, fun e => by rcases hap.at_ d e with h | h; have := hf5 _ h; omega; simp at h; omega⟩
  have k0 : W.cell? ⟨w5.heap.size, 0, none⟩ = some (.int .u32 7) := cell_at hg 0 _ rfl
  have k1 : W.cell? ⟨w5.heap.size, 1, none⟩ = some (.slice p6 9 c6) := cell_at hg 1 _ rfl
  have k2 : W.cell? ⟨w5.heap.size, 2, none⟩ = some (.int .u8 (wideV.l 0)) := cell_at hg 2 _ rfl
  have k3 : W.cell? ⟨w5.heap.size, 3, none⟩ = some (.int .u8 (wideV.l 1)) := cell_at hg 3 _ rfl
  have k4 : W.cell? ⟨w5.heap.size, 4, none⟩ = some (.int .u8 (wideV.l 2)) := cell_at hg 4 _ rfl
  have k5 : W.cell? ⟨w5.heap.size, 5, none⟩ = some (.int .u8 (wideV.l 3)) := cell_at hg 5 _ rfl
  have k6 : W.cell? ⟨w5.heap.size, 6, none⟩ = some (.int .u8 (wideV.l 4)) := cell_at hg 6 _ rfl
  have k7 : W.cell? ⟨w5.heap.size, 7, none⟩ = some (.int .u8 (wideV.l 5)) := cell_at hg 7 _ rfl
  have k8 : W.cell? ⟨w5.heap.size, 8, none⟩ = some (.int .u8 (wideV.l 6)) := cell_at hg 8 _ rfl
  have k9 : W.cell? ⟨w5.heap.size, 9, none⟩ = some (.int .u8 (wideV.l 7)) := cell_at hg 9 _ rfl
  have HAt := hid HAt
  have HR := hid hoW.rd
  clear hg hkp6 hb6 hbW hkW hoW hdW hW h6 hap Ho5 Hd5 Hb5 hf5 hk5
  go_region_held3 (fun w' => w'.cell? ⟨w5.heap.size, 0, none⟩ = some (.int .u32 7) ∧ w'.cell? ⟨w5.heap.size, 1, none⟩ = some (.slice p6 9 c6) ∧ w'.cell? ⟨w5.heap.size, 2, none⟩ = some (.int .u8 (wideV.l 0)) ∧ w'.cell? ⟨w5.heap.size, 3, none⟩ = some (.int .u8 (wideV.l 1)) ∧ w'.cell? ⟨w5.heap.size, 4, none⟩ = some (.int .u8 (wideV.l 2)) ∧ w'.cell? ⟨w5.heap.size, 5, none⟩ = some (.int .u8 (wideV.l 3)) ∧ w'.cell? ⟨w5.heap.size, 6, none⟩ = some (.int .u8 (wideV.l 4)) ∧ w'.cell? ⟨w5.heap.size, 7, none⟩ = some (.int .u8 (wideV.l 5)) ∧ w'.cell? ⟨w5.heap.size, 8, none⟩ = some (.int .u8 (wideV.l 6)) ∧ w'.cell? ⟨w5.heap.size, 9, none⟩ = some (.int .u8 (wideV.l 7))) (first | (apply cell_keep10 <;> assumption) | go_keep) (first | (go_at_call 7; refine (disk_New _).mono ?_; rintro e w7 ⟨rfl, hw7⟩; have hk7 : Below _ _ w7 := Eq.subst (motive := fun x => Below _ _ x) hw7 (below_alloc _ _); clear hw7) | (go_at_call 8; refine (acceptor_Make_wide 1 rfl _ wideV (by decide) (.slice p6 9 c6) _ (HR.out.below (pu_trans (pu_drew (pu_refl W)) hk7))).mono ?_; rintro e w8 ⟨rfl, hk8⟩))
  have HB8 := hid (HAt.out.under (pu_trans (pu_trans (pu_drew (pu_refl W)) hk7) hk8))
  clear hk7 hk8 HR HAt
  generalize w5.heap.size = g9 at *
  go_upto_region 10 with fail
  go_cut [10] (fun s10 wx => s10 = .bool (goodB self) ∧ wx = w8)
  case first =>
    by_cases h1 : 1 ≤ self
    · by_cases h5 : self ≤ 5
      · have hg : goodB self = true := by simp [goodB, h1, h5]
        go_wp2_with fail
        go_meet
        exact ⟨by rw [hg], rfl⟩
      · have hg : goodB self = false := by simp [goodB, h5]
        go_wp2_with fail
        go_meet
        exact ⟨by rw [hg], rfl⟩
    · have hg : goodB self = false := by simp [goodB, h1]
      go_wp2_with fail
      go_meet
      exact ⟨by rw [hg], rfl⟩
  case rest =>
    obtain ⟨rfl, rfl⟩ := hcut
    clear k0 k1 k2 k3 k4 k5 k6 k7 k8 k9
    have hsz56 := own_disk_le self hself
    have hfit := hid (own_fits self hself)
    by_cases hO : goodB other = true
    · have ho1 : 1 ≤ other := by have : 1 ≤ other ∧ other ≤ 5 := by simpa [goodB] using hO
                                 exact this.1
      have ho5 : other ≤ 5 := by have : 1 ≤ other ∧ other ≤ 5 := by simpa [goodB] using hO
                                 exact this.2
      cases hS : goodB self with
      | false =>
        have hm : makeErr self = 1 := by simp [makeErr, hS]
        have hod : ownDisk self = [] := by simp [ownDisk, hS]
        rw [hm]
        have h := HB8.out
        have hb := h.below
        have hd := h.disk
        have hdw := h.dw
        have h0s := h.below.size
        have hbx : BoxAt wc g9 (.slice p6 9 c6) := ⟨h.box, h.rd⟩
        have hdg := h.dg
        have hsd := h.sd
        rw [hod] at hd
        clear h HB8 hod hm
        go_wp2_with fail
        refine (acceptor_Open_empty d _ other hO _ hd).mono ?_
        rintro e w9 ⟨rfl, hd9, hk9⟩
        have hb := below_kp hb hk9 (fun k e => by omega)
        clear hd hk9
        go_wp2_with fail
        refine (law_viewOf 1 (by omega) _).mono ?_
        rintro e wa ⟨sa, rfl, hoa, hfa, hka⟩
        have hdlt := hd9.lt
        have hda := hd9.below hka
        have hb := pu_trans hb hka
        have Hoa := hid hoa.rd
        have Hsa : Hid (¬ sa.ownBlock = some d) := hid (fun e => by have := hfa _ e; omega)
        clear hoa hfa hka hd9
        go_wp2_with fail
        refine (acceptor_Make d other ⟨ho1, ho5⟩ (lawView 1) (lawView_good 1 (by omega)) sa _ _ hda Hoa.out Hsa.out).mono ?_
        rintro e wb ⟨rfl, hd, hkb⟩
        have hb := below_kp hb hkb (fun k e => by have : k = d := e; omega)
        have hsz := disk_len (l := [.birth other (lawView 1)]) (fun r hr => by simp only [List.mem_cons, List.not_mem_nil, or_false] at hr; subst hr; exact ⟨by omega, lawView_good 1 (by omega)⟩)
        have hsz : (diskBytes (texts [.birth other (lawView 1)])).length ≤ 1048576 := by simp only [List.length_cons, List.length_nil] at hsz; omega
        clear hda Hoa Hsa hkb
        go_wp2_with fail
        refine (disk_Crash d _ 0 (by omega) (by omega) _ hd (by omega)).mono ?_
        rintro e wcr ⟨rfl, hdc, hkc⟩
        have hb := below_kp hb hkc (fun k e => by omega)
        have hd := hdc
        clear hdc hkc
        go_wp2_with fail
        refine (acceptor_Open_off d _ _ other hO _ hd).mono ?_
        rintro e w9 ⟨rfl, rfl⟩
        go_wp2_with fail
        refine (law_viewOf 1 (by omega) _).mono ?_
        rintro e wa ⟨sa, rfl, hoa, hfa, hka⟩
        have hd := hd.below hka
        have hb := pu_trans hb hka
        have Hoa := hid hoa.rd
        go_wp2_with fail
        refine (acceptor_Make_off other hO d _ _ (lawView 1) (by decide) sa _ hd Hoa.out).mono ?_
        rintro e wb ⟨rfl, hkb⟩
        have hd := hd.below hkb
        have hb := pu_trans hb hkb
        clear hka hoa hfa Hoa
        go_wp2_with fail
        refine (disk_Start d _ _ _ _ hd).mono ?_
        rintro e wc1 ⟨rfl, hd1, hk1⟩
        have hb := below_kp hb hk1 (fun k e => by omega)
        go_wp2_with fail
        refine (disk_Wipe d _ _ _ _ hd1 hsz).mono ?_
        rintro e wc2 ⟨rfl, hd2, hk2⟩
        have hb := below_kp hb hk2 (fun k e => by omega)
        go_wp2_with fail
        refine (acceptor_Open_empty d 0 other hO _ hd2).mono ?_
        rintro e wc3 ⟨rfl, hd3, hk3⟩
        have hb := below_kp hb hk3 (fun k e => by omega)
        clear hd hd1 hd2 hd3 hk1 hk2 hk3
        go_wp2_with fail
        refine (law_ballot 1 1 _).mono ?_
        rintro e wc4 ⟨rfl, hk4⟩
        have hb := pu_trans hb hk4
        go_wp2_with fail
        refine (acceptor_Prepare_nil ⟨1, 1⟩ 0 _).mono ?_
        rintro e wc5 ⟨rfl, hk5⟩
        have hb := pu_trans hb hk5
        go_wp2_with fail
        refine (acceptor_Base_nil _).mono ?_
        rintro e wc6 ⟨rfl, hk6⟩
        have hb := pu_trans hb hk6
        clear hk4 hk5 hk6
        go_wp2_with fail
        refine (law_ballot 1 1 _).mono ?_
        rintro e wd1 ⟨rfl, hk1⟩
        go_wp2_with fail
        refine (law_command 1 (by omega) _).mono ?_
        rintro e wd2 ⟨rfl, hk2⟩
        go_wp2_with fail
        refine (acceptor_Accept_nil ⟨1, 1⟩ 0 (lawCmd 1) _).mono ?_
        rintro e wd3 ⟨rfl, hk3⟩
        go_wp2_with fail
        refine (law_viewOf 1 (by omega) _).mono ?_
        rintro e wd4 ⟨sd4, rfl, hod4, hfd4, hk4⟩
        clear hod4 hfd4
        go_wp2_with fail
        refine (acceptor_Truncate_nil 1 (lawView 1) sd4 _).mono ?_
        rintro e wd5 ⟨rfl, hk5⟩
        have hk5 := pu_trans (pu_trans (pu_trans (pu_trans hk1 hk2) hk3) hk4) hk5
        have hb := pu_trans (pu_alloc hb _) hk5
        have hbox := (hk5.block _ (by simp)).trans (alloc_new wc6 (.cells (halfCells 0 (.slice none 0 0)) 32))
        clear hk1 hk2 hk3 hk4 hk5
        have kbox := cell_at hbox 1 _ rfl
        go_wp2_with fail
        refine (acceptor_Promised_nil _).mono ?_
        rintro e we1 ⟨rfl, hk1⟩
        have hb := pu_trans hb hk1
        have hfz : ∀ W : World, (Instr.field 42 (.agg (balArr Ballot.zero)) 0).run Try.prog W = .ok (.agg #[.int .u32 Ballot.zero.n, .int .u8 Ballot.zero.by_]) W := fun W => run_field_mark _ _ W
        go_wp2_with fail
        refine (mark_None Ballot.zero _).mono ?_
        rintro e we2 ⟨rfl, hk2⟩
        have hb := pu_trans hb hk2
        clear hk1 hk2 hbox
        go_wp2_with fail
        refine (acceptor_Entries_nil 0 _).mono ?_
        rintro e we3 ⟨rfl, rfl⟩
        go_wp2_with fail
        go_ret
        exact ⟨rfl, hb⟩
      | true =>
        have hm : makeErr self = 0 := by simp [makeErr, hS]
        have hod : ownDisk self = diskBytes (texts [.birth self (lawView 2)]) := by simp [ownDisk, hS]
        rw [hm]
        have hsz : (diskBytes (texts [.birth self (lawView 2)])).length ≤ 1048576 := by omega
        have h := HB8.out
        have hb := h.below
        have hd := h.disk
        have hdw := h.dw
        have h0s := h.below.size
        have hbx : BoxAt wc g9 (.slice p6 9 c6) := ⟨h.box, h.rd⟩
        have hdg := h.dg
        have hsd := h.sd
        rw [hod] at hd
        clear h HB8 hod hm
        by_cases hne : self = other
        · subst hne
          have hgt : 1 ≤ self ∧ self ≤ 5 := ⟨ho1, ho5⟩
          go_wp2_with fail
          refine (acceptor_Open d self hgt (lawView 2) [] _ _ hd hfit.out (by simp)).mono ?_
          rintro e w9 ⟨x, rfl, had, hA, hk9, hK, hs⟩
          have hb := below_kp hb hk9 (fun k e => by have : k = d := e; omega)
          have hxw : w.heap.size ≤ x.j := by rcases hK x.j (.inr (.inr (.inl rfl))) with e | e; omega; omega
          have hbx := hbx.kept hk9 hdg (fun k hk e => hsd (by have : k = d := e; rw [← this]; exact hk))
          clear hd hk9 hK hs
          have HA := hid hA
          have Had := hid had
          have Hbx := hid hbx
          clear hA had hbx
          go_wp2_with fail
          refine (law_viewOf 1 (by omega) _).mono ?_
          rintro e wa ⟨sa, rfl, hoa, hfa, hka⟩
          have HA := hid (HA.out.below hka)
          have Hbx := hid (Hbx.out.below hka)
          have hb := pu_trans hb hka
          have Hoa := hid hoa.rd
          clear hoa hfa hka
          have hda := HA.out.disk
          rw [Had.out] at hda
          go_wp2_with fail
          refine (acceptor_Make_has self hO d (texts [.birth self (lawView 2)]) hfit.out.ok (by omega) (by simp [texts]) (by simp [texts]) _ (lawView 1) (by decide) sa _ hda Hoa.out).mono ?_
          rintro e wb ⟨rfl, hd, hkb⟩
          have hb := below_kp hb hkb (fun k e => by omega)
          have HA := hid (HA.out.redisk (off' := false) (by rw [Had.out]; exact hkb) (by rw [Had.out]; exact hd))
          have Hbx := hid (Hbx.out.kept hkb hdg (fun k hk e => hsd (by have : k = d := e; rw [← this]; exact hk)))
          clear hda Hoa hkb
          go_wp2_with fail
          refine (disk_Crash d _ 0 (by omega) (by omega) _ hd (by omega)).mono ?_
          rintro e wcr ⟨rfl, hdc, hkc⟩
          have hb := below_kp hb hkc (fun k e => by omega)
          have HA := hid (HA.out.redisk (off' := true) (by rw [Had.out]; exact hkc) (by rw [Had.out]; exact hdc))
          have Hbx := hid (Hbx.out.kept hkc hdg (fun k hk e => hsd (by have : k = d := e; rw [← this]; exact hk)))
          have hd := hdc
          clear hdc hkc
          go_wp2_with fail
          refine (acceptor_Open_off d _ _ self hO _ hd).mono ?_
          rintro e w9 ⟨rfl, rfl⟩
          go_wp2_with fail
          refine (law_viewOf 1 (by omega) _).mono ?_
          rintro e wa ⟨sa, rfl, hoa, hfa, hka⟩
          have hd := hd.below hka
          have HA := hid (HA.out.below hka)
          have Hbx := hid (Hbx.out.below hka)
          have hb := pu_trans hb hka
          have Hoa := hid hoa.rd
          go_wp2_with fail
          refine (acceptor_Make_off self hO d _ _ (lawView 1) (by decide) sa _ hd Hoa.out).mono ?_
          rintro e wb ⟨rfl, hkb⟩
          have hd := hd.below hkb
          have HA := hid (HA.out.below hkb)
          have Hbx := hid (Hbx.out.below hkb)
          have hb := pu_trans hb hkb
          clear hka hoa hfa Hoa
          clear hd
          have k0 := cell_at Hbx.out.box 0 _ rfl
          have k1 := cell_at Hbx.out.box 1 _ rfl
          have k2 := cell_at Hbx.out.box 2 _ rfl
          have k3 := cell_at Hbx.out.box 3 _ rfl
          have k4 := cell_at Hbx.out.box 4 _ rfl
          have k5 := cell_at Hbx.out.box 5 _ rfl
          have k6 := cell_at Hbx.out.box 6 _ rfl
          have k7 := cell_at Hbx.out.box 7 _ rfl
          have k8 := cell_at Hbx.out.box 8 _ rfl
          have k9 := cell_at Hbx.out.box 9 _ rfl
          go_wp2_with fail
          refine (acceptor_Truncate_wide x.A 1 wideV (by decide) _ _ Hbx.out.rd).mono ?_
          rintro e wt ⟨rfl, hkt⟩
          have HA := hid (HA.out.below hkt)
          have hb := pu_trans hb hkt
          clear hkt k0 k1 k2 k3 k4 k5 k6 k7 k8 k9
          go_wp2_with fail
          refine (law_ballot 1 1 _).mono ?_
          rintro e wt1 ⟨rfl, hkt⟩
          have HA := hid (HA.out.below hkt)
          have hb := pu_trans hb hkt
          clear hkt
          go_wp2_with fail
          refine (law_command 1 (by omega) _).mono ?_
          rintro e wt2 ⟨rfl, hkt⟩
          have HA := hid (HA.out.below hkt)
          have hb := pu_trans hb hkt
          clear hkt
          go_wp2_with fail
          refine (acceptor_Accept_off x [.birth self (lawView 2)] ⟨1, 1⟩ (by simp [Ballot.fits]) 0 (by omega) (lawCmd 1) (lawCmd_fits 1 (by omega)) _ HA.out hfit.out (by simp) rfl).mono ?_
          rintro e wt3 ⟨rfl, hA3, hkt⟩
          have hb := below_kp hb hkt (fun k e => by omega)
          have HA := hid hA3
          clear hkt hA3
          go_wp2_with fail
          refine (acceptor_Entries x.A x.j _ _ _ 0 _ HA.out.acc (Nat.le_trans (replay_len _) (by simp))).mono ?_
          rintro e wt4 ⟨v4, out, hout, rfl, hrd, hfr, hkt⟩
          have hout : out = [] := List.perm_nil.1 hout.1
          subst hout
          have hd := (HA.out.below hkt).disk
          rw [Had.out] at hd
          have hb := pu_trans hb hkt
          obtain ⟨p4, c4, rfl⟩ := hrd.form
          clear hkt hrd hfr HA
          go_wp2_with fail
          refine (disk_Start d _ _ _ _ hd).mono ?_
          rintro e wc1 ⟨rfl, hd1, hk1⟩
          have hb := below_kp hb hk1 (fun k e => by omega)
          go_wp2_with fail
          refine (disk_Wipe d _ _ _ _ hd1 hsz).mono ?_
          rintro e wc2 ⟨rfl, hd2, hk2⟩
          have hb := below_kp hb hk2 (fun k e => by omega)
          go_wp2_with fail
          refine (acceptor_Open_empty d 0 self hO _ hd2).mono ?_
          rintro e wc3 ⟨rfl, hd3, hk3⟩
          have hb := below_kp hb hk3 (fun k e => by omega)
          clear hd hd1 hd2 hd3 hk1 hk2 hk3
          go_wp2_with fail
          refine (law_ballot 1 1 _).mono ?_
          rintro e wc4 ⟨rfl, hk4⟩
          have hb := pu_trans hb hk4
          go_wp2_with fail
          refine (acceptor_Prepare_nil ⟨1, 1⟩ 0 _).mono ?_
          rintro e wc5 ⟨rfl, hk5⟩
          have hb := pu_trans hb hk5
          go_wp2_with fail
          refine (acceptor_Base_nil _).mono ?_
          rintro e wc6 ⟨rfl, hk6⟩
          have hb := pu_trans hb hk6
          clear hk4 hk5 hk6
          go_wp2_with fail
          refine (law_ballot 1 1 _).mono ?_
          rintro e wd1 ⟨rfl, hk1⟩
          go_wp2_with fail
          refine (law_command 1 (by omega) _).mono ?_
          rintro e wd2 ⟨rfl, hk2⟩
          go_wp2_with fail
          refine (acceptor_Accept_nil ⟨1, 1⟩ 0 (lawCmd 1) _).mono ?_
          rintro e wd3 ⟨rfl, hk3⟩
          go_wp2_with fail
          refine (law_viewOf 1 (by omega) _).mono ?_
          rintro e wd4 ⟨sd4, rfl, hod4, hfd4, hk4⟩
          clear hod4 hfd4
          go_wp2_with fail
          refine (acceptor_Truncate_nil 1 (lawView 1) sd4 _).mono ?_
          rintro e wd5 ⟨rfl, hk5⟩
          have hk5 := pu_trans (pu_trans (pu_trans (pu_trans hk1 hk2) hk3) hk4) hk5
          have hb := pu_trans (pu_alloc hb _) hk5
          have hbox := (hk5.block _ (by simp)).trans (alloc_new wc6 (.cells (halfCells 0 (.slice none 0 0)) 32))
          clear hk1 hk2 hk3 hk4 hk5
          have kbox := cell_at hbox 1 _ rfl
          go_wp2_with fail
          refine (acceptor_Promised_nil _).mono ?_
          rintro e we1 ⟨rfl, hk1⟩
          have hb := pu_trans hb hk1
          have hfz : ∀ W : World, (Instr.field 42 (.agg (balArr Ballot.zero)) 0).run Try.prog W = .ok (.agg #[.int .u32 Ballot.zero.n, .int .u8 Ballot.zero.by_]) W := fun W => run_field_mark _ _ W
          go_wp2_with fail
          refine (mark_None Ballot.zero _).mono ?_
          rintro e we2 ⟨rfl, hk2⟩
          have hb := pu_trans hb hk2
          clear hk1 hk2 hbox
          go_wp2_with fail
          refine (acceptor_Entries_nil 0 _).mono ?_
          rintro e we3 ⟨rfl, rfl⟩
          go_wp2_with fail
          go_ret
          exact ⟨rfl, hb⟩
        · have hne' : (other != self) = true := by simp; omega
          go_wp2_with fail
          refine (acceptor_Open_other d self other hO hne (lawView 2) _ _ hd hfit.out).mono ?_
          rintro e w9 ⟨rfl, hd9, hk9⟩
          have hb := below_kp hb hk9 (fun k e => by omega)
          clear hd hk9
          go_wp2_with fail
          refine (law_viewOf 1 (by omega) _).mono ?_
          rintro e wa ⟨sa, rfl, hoa, hfa, hka⟩
          have hda := hd9.below hka
          have hb := pu_trans hb hka
          have Hoa := hid hoa.rd
          clear hoa hfa hka hd9
          go_wp2_with fail
          refine (acceptor_Make_has other hO d (texts [.birth self (lawView 2)]) hfit.out.ok (by omega) (by simp [texts]) (by simp [texts]) _ (lawView 1) (by decide) sa _ hda Hoa.out).mono ?_
          rintro e wb ⟨rfl, hd, hkb⟩
          have hb := below_kp hb hkb (fun k e => by omega)
          clear hda Hoa hkb
          go_wp2_with fail
          refine (disk_Crash d _ 0 (by omega) (by omega) _ hd (by omega)).mono ?_
          rintro e wcr ⟨rfl, hdc, hkc⟩
          have hb := below_kp hb hkc (fun k e => by omega)
          have hd := hdc
          clear hdc hkc
          go_wp2_with fail
          refine (acceptor_Open_off d _ _ other hO _ hd).mono ?_
          rintro e w9 ⟨rfl, rfl⟩
          go_wp2_with fail
          refine (law_viewOf 1 (by omega) _).mono ?_
          rintro e wa ⟨sa, rfl, hoa, hfa, hka⟩
          have hd := hd.below hka
          have hb := pu_trans hb hka
          have Hoa := hid hoa.rd
          go_wp2_with fail
          refine (acceptor_Make_off other hO d _ _ (lawView 1) (by decide) sa _ hd Hoa.out).mono ?_
          rintro e wb ⟨rfl, hkb⟩
          have hd := hd.below hkb
          have hb := pu_trans hb hkb
          clear hka hoa hfa Hoa
          go_wp2_with fail
          refine (disk_Start d _ _ _ _ hd).mono ?_
          rintro e wc1 ⟨rfl, hd1, hk1⟩
          have hb := below_kp hb hk1 (fun k e => by omega)
          go_wp2_with fail
          refine (disk_Wipe d _ _ _ _ hd1 hsz).mono ?_
          rintro e wc2 ⟨rfl, hd2, hk2⟩
          have hb := below_kp hb hk2 (fun k e => by omega)
          go_wp2_with fail
          refine (acceptor_Open_empty d 0 other hO _ hd2).mono ?_
          rintro e wc3 ⟨rfl, hd3, hk3⟩
          have hb := below_kp hb hk3 (fun k e => by omega)
          clear hd hd1 hd2 hd3 hk1 hk2 hk3
          go_wp2_with fail
          refine (law_ballot 1 1 _).mono ?_
          rintro e wc4 ⟨rfl, hk4⟩
          have hb := pu_trans hb hk4
          go_wp2_with fail
          refine (acceptor_Prepare_nil ⟨1, 1⟩ 0 _).mono ?_
          rintro e wc5 ⟨rfl, hk5⟩
          have hb := pu_trans hb hk5
          go_wp2_with fail
          refine (acceptor_Base_nil _).mono ?_
          rintro e wc6 ⟨rfl, hk6⟩
          have hb := pu_trans hb hk6
          clear hk4 hk5 hk6
          go_wp2_with fail
          refine (law_ballot 1 1 _).mono ?_
          rintro e wd1 ⟨rfl, hk1⟩
          go_wp2_with fail
          refine (law_command 1 (by omega) _).mono ?_
          rintro e wd2 ⟨rfl, hk2⟩
          go_wp2_with fail
          refine (acceptor_Accept_nil ⟨1, 1⟩ 0 (lawCmd 1) _).mono ?_
          rintro e wd3 ⟨rfl, hk3⟩
          go_wp2_with fail
          refine (law_viewOf 1 (by omega) _).mono ?_
          rintro e wd4 ⟨sd4, rfl, hod4, hfd4, hk4⟩
          clear hod4 hfd4
          go_wp2_with fail
          refine (acceptor_Truncate_nil 1 (lawView 1) sd4 _).mono ?_
          rintro e wd5 ⟨rfl, hk5⟩
          have hk5 := pu_trans (pu_trans (pu_trans (pu_trans hk1 hk2) hk3) hk4) hk5
          have hb := pu_trans (pu_alloc hb _) hk5
          have hbox := (hk5.block _ (by simp)).trans (alloc_new wc6 (.cells (halfCells 0 (.slice none 0 0)) 32))
          clear hk1 hk2 hk3 hk4 hk5
          have kbox := cell_at hbox 1 _ rfl
          go_wp2_with fail
          refine (acceptor_Promised_nil _).mono ?_
          rintro e we1 ⟨rfl, hk1⟩
          have hb := pu_trans hb hk1
          have hfz : ∀ W : World, (Instr.field 42 (.agg (balArr Ballot.zero)) 0).run Try.prog W = .ok (.agg #[.int .u32 Ballot.zero.n, .int .u8 Ballot.zero.by_]) W := fun W => run_field_mark _ _ W
          go_wp2_with fail
          refine (mark_None Ballot.zero _).mono ?_
          rintro e we2 ⟨rfl, hk2⟩
          have hb := pu_trans hb hk2
          clear hk1 hk2 hbox
          go_wp2_with fail
          refine (acceptor_Entries_nil 0 _).mono ?_
          rintro e we3 ⟨rfl, rfl⟩
          go_wp2_with fail
          go_ret
          exact ⟨rfl, hb⟩
    · have hO : goodB other = false := by simpa using hO
      have h := HB8.out.below
      by_cases ho1 : other < 1
      · cases hS : goodB self with
        | false =>
          have hm : makeErr self = 1 := by simp [makeErr, hS]
          rw [hm]
          clear HB8 hm
          go_wp2_with fail
          refine (acceptor_Open_bad d other hO (rptr d) _).mono ?_
          rintro e w9 ⟨rfl, rfl⟩
          go_wp2_with fail
          go_ret
          exact ⟨rfl, h⟩
        | true =>
          have hm : makeErr self = 0 := by simp [makeErr, hS]
          rw [hm]
          clear HB8 hm
          go_wp2_with fail
          refine (acceptor_Open_bad d other hO (rptr d) _).mono ?_
          rintro e w9 ⟨rfl, rfl⟩
          go_wp2_with fail
          go_ret
          exact ⟨rfl, h⟩
      · have ho5 : 5 < other := by
          have : ¬ (1 ≤ other ∧ other ≤ 5) := by simpa [goodB] using hO
          omega
        cases hS : goodB self with
        | false =>
          have hm : makeErr self = 1 := by simp [makeErr, hS]
          rw [hm]
          clear HB8 hm
          go_wp2_with fail
          refine (acceptor_Open_bad d other hO (rptr d) _).mono ?_
          rintro e w9 ⟨rfl, rfl⟩
          go_wp2_with fail
          go_ret
          exact ⟨rfl, h⟩
        | true =>
          have hm : makeErr self = 0 := by simp [makeErr, hS]
          rw [hm]
          clear HB8 hm
          go_wp2_with fail
          refine (acceptor_Open_bad d other hO (rptr d) _).mono ?_
          rintro e w9 ⟨rfl, rfl⟩
          go_wp2_with fail
          go_ret
          exact ⟨rfl, h⟩
end Go.Proofs.Ytlpnomejpaoeaaa
