/- Parts as the code makes them; records. -/
import Derived.Test.YtlpnomejpaoeaaaOctet
namespace Go.Proofs.Ytlpnomejpaoeaaa
set_option linter.unusedSimpArgs false
set_option linter.unusedVariables false
open Go.RowKit
set_option maxHeartbeats 400000

theorem octet_Num (n k : Int) (w : World) :
    Calls Try.prog 60 #[.int .u64 n, .int .i64 k] w fun e w' => e = .returned (.agg #[.int .i64 1, .int .i64 k, .int .u64 n, .string ⟨#[]⟩]) ∧ Below w.heap.size w w' := by
  go_enter Try.func60, Try.ntmps60
  go_wp2
  exact bodyPost_ret (v := .agg #[.int .i64 1, .int .i64 k, .int .u64 n, .string ⟨#[]⟩]) (by simp [results, Try.results60, go_sem]) rfl ⟨rfl, below_alloc _ _⟩
theorem octet_Raw (s : Bytes) (w : World) :
    Calls Try.prog 62 #[str s] w fun e w' => e = .returned (.agg #[.int .i64 3, .int .i64 0, .int .u64 0, str s]) ∧ Below w.heap.size w w' := by
  go_enter Try.func62, Try.ntmps62
  go_wp2
  exact bodyPost_ret (v := .agg #[.int .i64 3, .int .i64 0, .int .u64 0, str s]) (by simp [results, Try.results62, go_sem]) rfl ⟨rfl, below_alloc _ _⟩
theorem acceptor_small (n : Int) (h0 : 0 ≤ n) (h1 : n < 256) (w : World) :
    Calls Try.prog 37 #[.int .u8 n] w fun e w' => e = .returned (.agg #[.int .i64 1, .int .i64 1, .int .u64 n, .string ⟨#[]⟩]) ∧ Below w.heap.size w w' := by
  go_enter Try.func37, Try.ntmps37
  go_wp2_with fail
  refine (octet_Num _ _ _).mono ?_
  rintro e w1 ⟨rfl, hb1⟩
  obtain ⟨hc, hf⟩ := bcell hb1
  have hz : w.heap.size < w1.heap.size := by have := hb1.size; simp at this; omega
  go_wp2
  refine bodyPost_ret (v := .agg #[.int .i64 1, .int .i64 1, .int .u64 n, .string ⟨#[]⟩]) (by simp [results, Try.results37, go_sem, hc, hf, hz]) rfl ⟨rfl, ?_⟩
  exact (((((below_alloc _ _).trans (hb1.mono (by simp))).setCell (Nat.le_refl _) _).setCell (Nat.le_refl _) _).setCell (Nat.le_refl _) _).setCell (Nat.le_refl _) _
theorem acceptor_wide (n : Int) (h0 : 0 ≤ n) (h1 : n < 4294967296) (w : World) :
    Calls Try.prog 61 #[.int .u32 n] w fun e w' => e = .returned (.agg #[.int .i64 1, .int .i64 4, .int .u64 n, .string ⟨#[]⟩]) ∧ Below w.heap.size w w' := by
  go_enter Try.func61, Try.ntmps61
  go_wp2_with fail
  refine (octet_Num _ _ _).mono ?_
  rintro e w1 ⟨rfl, hb1⟩
  obtain ⟨hc, hf⟩ := bcell hb1
  have hz : w.heap.size < w1.heap.size := by have := hb1.size; simp at this; omega
  go_wp2
  refine bodyPost_ret (v := .agg #[.int .i64 1, .int .i64 4, .int .u64 n, .string ⟨#[]⟩]) (by simp [results, Try.results61, go_sem, hc, hf, hz]) rfl ⟨rfl, ?_⟩
  exact (((((below_alloc _ _).trans (hb1.mono (by simp))).setCell (Nat.le_refl _) _).setCell (Nat.le_refl _) _).setCell (Nat.le_refl _) _).setCell (Nat.le_refl _) _

theorem sl_parts : SlT Try.prog 91 93 4 40 := ⟨Try.underlying91, by kernel_rfl, by decide⟩
theorem partCells_one (l : List Part) : ∀ u ∈ partCells l, u.oneCell' = true := by
  intro u hu
  simp only [partCells, List.mem_flatMap] at hu
  obtain ⟨p, _, hp⟩ := hu
  simp only [Part.cells, List.mem_cons, List.not_mem_nil, or_false] at hp
  rcases hp with rfl | rfl | rfl | rfl <;> rfl

/-- A record: its kind, then parts. -/
def record (kind : Int) (l : List Part) : Bytes := partBytes (Part.num kind 1 :: l)
theorem acceptor_record (kind : Int) (h0 : 0 ≤ kind) (h1 : kind < 256) (l : List Part) (hok : ∀ p ∈ l, p.ok) (hlen : l.length ≤ 190) (v : Value) (w : World) (hv : Rd w 4 v l.length (partCells l)) :
    Calls Try.prog 36 #[.int .u64 kind, v] w fun e w' => e = .returned (str (record kind l)) ∧ Below w.heap.size w w' := by
  have Hok := hid hok
  clear hok
  go_enter Try.func36, Try.ntmps36
  go_wp2_with fail
  refine (octet_Num _ _ _).mono ?_
  rintro e w1 ⟨rfl, hb1⟩
  have hown : ∀ (W : World), Own (W.alloc (.cells #[.int .i64 1, .int .i64 1, .int .u64 kind, .string ⟨#[]⟩] 93)) 93 4 (.slice (some ⟨W.heap.size, 0, none⟩) 1 1) 1 (partCells [Part.num kind 1]) := fun W =>
    Own.made (alloc_new W _) (Nat.le_refl _) (by decide) rfl
  have hv1 := hv.below hb1
  go_wp2_with (first | (at_builtin; refine wpList_app rfl _ _ rfl sl_parts _ _ _ rfl (hown _) _ _ _ rfl (hv1.below (below_alloc _ _)) (partCells_one _) (by unfold maxLen; omega) (by omega) ?_; intro v2 w2 hap) | fail)
  have hrd : Rd w2 4 v2 (Part.num kind 1 :: l).length (partCells (Part.num kind 1 :: l)) := by
    have := hap.own.rd
    rw [Nat.add_comm] at this
    simpa [partCells] using this
  refine (octet_Join (Part.num kind 1 :: l) ?_ (by simp; omega) _ _ hrd).mono ?_
  · intro p hp
    rcases List.mem_cons.1 hp with rfl | hp
    · exact Part.ok.num _ _ ⟨by omega, by omega, h0, by simpa using h1⟩
    · exact Hok.out p hp
  rintro e w3 ⟨rfl, hb3⟩
  have hb2 : Below w1.heap.size (w1.alloc (.cells #[.int .i64 1, .int .i64 1, .int .u64 kind, .string ⟨#[]⟩] 93)) w2 := hap.below (fun k hk => by cases hk; exact Nat.le_refl _) (by simp)
  go_wp2
  go_ret
  exact ⟨rfl, hb1.trans (((below_alloc _ _).trans hb2).mono hb1.size |>.trans (hb3.mono (by have := hb1.size; have := hb2.size; simp at this; omega)))⟩

theorem acceptor_promised (n b : Int) (hn0 : 0 ≤ n) (hn1 : n < 4294967296) (hb0 : 0 ≤ b) (hb1 : b < 256) (w : World) :
    Calls Try.prog 46 #[.agg #[.int .u32 n, .int .u8 b]] w fun e w' => e = .returned (str (record 2 [Part.num n 4, Part.num b 1])) ∧ Below w.heap.size w w' := by
  have hok : ∀ p ∈ [Part.num n 4, Part.num b 1], p.ok := by
    intro p hp
    simp only [List.mem_cons, List.not_mem_nil, or_false] at hp
    rcases hp with rfl | rfl
    · exact Part.ok.num _ _ ⟨by omega, by omega, hn0, by simpa using hn1⟩
    · exact Part.ok.num _ _ ⟨by omega, by omega, hb0, by simpa using hb1⟩
  have hRd : ∀ (W : World) (g : Nat), g = W.heap.size → Rd (W.alloc (.cells #[.int .i64 1, .int .i64 4, .int .u64 n, .string ⟨#[]⟩, .int .i64 1, .int .i64 1, .int .u64 b, .string ⟨#[]⟩] 93)) 4 (.slice (some ⟨g, 0, none⟩) 2 2) 2 (partCells [Part.num n 4, Part.num b 1]) :=
    fun W g hg => Rd.lit W _ _ 4 2 g hg rfl (by decide)
  have Hok := hid hok
  have HRd := hid hRd
  clear hok hRd
  go_enter Try.func46, Try.ntmps46
  go_wp2_with fail
  go_region_held3 (fun w' => w'.cell? ⟨w.heap.size, 0, none⟩ = some (.int .u32 n) ∧ w'.cell? ⟨w.heap.size, 1, none⟩ = some (.int .u8 b))
    (first | (apply cell_keep2 <;> assumption) | go_keep)
    (first | (go_at_call 61; refine (acceptor_wide _ hn0 hn1 _).mono ?_; rintro e w1 ⟨rfl, hk1⟩) | (go_at_call 37; refine (acceptor_small _ hb0 hb1 _).mono ?_; rintro e w2 ⟨rfl, hk2⟩) | (go_at_call 36; refine (acceptor_record 2 (by omega) (by omega) [Part.num n 4, Part.num b 1] Hok.out (by simp) _ _ (HRd.out _ _ ?hg)).mono ?_; (case hg => simp); rintro e w3 ⟨rfl, hk3⟩))
  go_wp2
  go_ret
  exact ⟨rfl, pu_trans (pu_alloc (pu_trans (pu_trans (pu_drew (pu_alloc (pu_refl _) _)) hk1) hk2) _) hk3⟩

/-- A command's and an entry's numbers fit. -/
structure Cmd where
  kind : Int
  node : Int
  life : Int
  epoch : Int
  req : Int
def Cmd.fits (c : Cmd) : Prop := (0 ≤ c.kind ∧ c.kind < 256) ∧ (0 ≤ c.node ∧ c.node < 256) ∧ (0 ≤ c.life ∧ c.life < 256) ∧ (0 ≤ c.epoch ∧ c.epoch < 4294967296) ∧ (0 ≤ c.req ∧ c.req < 4294967296)
structure Ballot where
  n : Int
  by_ : Int
def Ballot.fits (b : Ballot) : Prop := (0 ≤ b.n ∧ b.n < 4294967296) ∧ (0 ≤ b.by_ ∧ b.by_ < 256)
structure Entry where
  slot : Int
  b : Ballot
  c : Cmd
def Entry.fits (x : Entry) : Prop := (0 ≤ x.slot ∧ x.slot < 4294967296) ∧ x.b.fits ∧ x.c.fits
def acceptedParts (x : Entry) : List Part :=
  [Part.num x.slot 4, Part.num x.b.n 4, Part.num x.b.by_ 1, Part.num x.c.kind 1, Part.num x.c.node 1, Part.num x.c.life 1, Part.num x.c.epoch 4, Part.num x.c.req 4]
theorem ok1 {n : Int} (h : 0 ≤ n ∧ n < 256) : (Part.num n 1).ok := Part.ok.num _ _ ⟨by omega, by omega, h.1, by simpa using h.2⟩
theorem ok4 {n : Int} (h : 0 ≤ n ∧ n < 4294967296) : (Part.num n 4).ok := Part.ok.num _ _ ⟨by omega, by omega, h.1, by simpa using h.2⟩
theorem acceptedParts_ok (x : Entry) (h : x.fits) : ∀ p ∈ acceptedParts x, p.ok := by
  obtain ⟨h1, ⟨h2, h3⟩, h4, h5, h6, h7, h8⟩ := h
  intro p hp
  simp only [acceptedParts, List.mem_cons, List.not_mem_nil, or_false] at hp
  rcases hp with rfl | rfl | rfl | rfl | rfl | rfl | rfl | rfl
  · exact ok4 h1
  · exact ok4 h2
  · exact ok1 h3
  · exact ok1 h4
  · exact ok1 h5
  · exact ok1 h6
  · exact ok4 h7
  · exact ok4 h8

set_option maxHeartbeats 1000000 in
theorem acceptor_accepted (x : Entry) (hx : x.fits) (w : World) :
    Calls Try.prog 47 #[.agg #[.int .u32 x.slot, .int .u32 x.b.n, .int .u8 x.b.by_, .int .u8 x.c.kind, .int .u8 x.c.node, .int .u8 x.c.life, .int .u32 x.c.epoch, .int .u32 x.c.req]] w
      fun e w' => e = .returned (str (record 3 (acceptedParts x))) ∧ Below w.heap.size w w' := by
  have Hok := hid (acceptedParts_ok x hx)
  have hRd : ∀ (W : World) (g : Nat), g = W.heap.size → Rd (W.alloc (.cells (partCells (acceptedParts x)).toArray 93)) 4 (.slice (some ⟨g, 0, none⟩) 8 8) 8 (partCells (acceptedParts x)) :=
    fun W g hg => Rd.lit W _ _ 4 8 g hg rfl (by decide)
  simp only [acceptedParts, partCells, List.flatMap_cons, List.flatMap_nil, Part.cells, Part.num, List.cons_append, List.nil_append, List.append_nil] at hRd
  obtain ⟨h1, ⟨h2, h3⟩, h4, h5, h6, h7, h8⟩ := hx
  have HRd := hid hRd
  clear hRd
  go_enter Try.func47, Try.ntmps47
  go_wp2_with fail
  go_region_held3 (fun w' => w'.cell? ⟨w.heap.size, 0, none⟩ = some (.int .u32 x.slot) ∧ w'.cell? ⟨w.heap.size, 1, none⟩ = some (.int .u32 x.b.n) ∧ w'.cell? ⟨w.heap.size, 2, none⟩ = some (.int .u8 x.b.by_)
      ∧ w'.cell? ⟨w.heap.size + 1, 0, none⟩ = some (.int .u8 x.c.kind) ∧ w'.cell? ⟨w.heap.size + 1, 1, none⟩ = some (.int .u8 x.c.node) ∧ w'.cell? ⟨w.heap.size + 1, 2, none⟩ = some (.int .u8 x.c.life)
      ∧ w'.cell? ⟨w.heap.size + 1, 3, none⟩ = some (.int .u32 x.c.epoch) ∧ w'.cell? ⟨w.heap.size + 1, 4, none⟩ = some (.int .u32 x.c.req))
    (first | (apply cell_keep8 <;> assumption) | go_keep)
    (first | (go_at_call 61; refine (acceptor_wide _ (by omega) (by omega) _).mono ?_; rintro e w1 ⟨rfl, hk1⟩) | (go_at_call 37; refine (acceptor_small _ (by omega) (by omega) _).mono ?_; rintro e w2 ⟨rfl, hk2⟩) | (go_at_call 36; refine (acceptor_record 3 (by omega) (by omega) _ Hok.out (by simp [acceptedParts]) _ _ (HRd.out _ _ ?hg)).mono ?_; (case hg => simp); rintro e w3 ⟨rfl, hk3⟩))
  go_wp2
  go_ret
  refine ⟨rfl, ?_⟩
  (repeat (first | exact pu_refl _ | assumption | refine pu_alloc ?_ _ | refine pu_drew ?_ | refine pu_drewN ?_ _ | refine pu_set ?_ (by simp; done) _ | (apply pu_trans; rotate_left; assumption)))
end Go.Proofs.Ytlpnomejpaoeaaa
