/- Package octet: the reader. -/
import Derived.Test.YtlpnomejpaoeaaaView
import Derived.Laws.BitsLemmas
namespace Go.Proofs.Ytlpnomejpaoeaaa
set_option linter.unusedSimpArgs false
set_option linter.unusedVariables false
open Go.RowKit
set_option maxHeartbeats 400000
set_option maxRecDepth 20000

/-- A reader in its block: what is left, what was wrong. -/
def RdrAt (w : World) (r : Nat) (s : Bytes) (bad : Int) : Prop := w.heap[r]? = some (.cells #[str s, .int .i64 bad] 146 (0, 0))
abbrev rptr (r : Nat) : Value := .pointer (some ⟨r, 0, none⟩)
/-- Only the reader's block has turned. -/
abbrev Only (r : Nat) (w w' : World) : Prop := Kp (fun k => k = r) w w'

theorem RdrAt.facts {w : World} {r : Nat} {s : Bytes} {bad : Int} (h : RdrAt w r s bad) :
    w.cell? ⟨r, 0, none⟩ = some (str s) ∧ w.cell? ⟨r, 1, none⟩ = some (.int .i64 bad) ∧ w.frozen? ⟨r, 0, none⟩ = false ∧ w.frozen? ⟨r, 1, none⟩ = false :=
  ⟨by rw [cell_of h]; rfl, by rw [cell_of h]; rfl, free_of h _, free_of h _⟩
theorem RdrAt.setS {w : World} {r : Nat} {s : Bytes} {bad : Int} (h : RdrAt w r s bad) (t : Bytes) : RdrAt (w.setCell ⟨r, 0, none⟩ (str t)) r t bad := by
  have := setCell_self (i := 0) h (str t)
  simpa [RdrAt] using this
theorem RdrAt.setBad {w : World} {r : Nat} {s : Bytes} {bad : Int} (h : RdrAt w r s bad) (b : Int) : RdrAt (w.setCell ⟨r, 1, none⟩ (.int .i64 b)) r s b := by
  have := setCell_self (i := 1) h (.int .i64 b)
  simpa [RdrAt] using this
theorem only_set (w : World) (r i : Nat) (u : Value) : Only r w (w.setCell ⟨r, i, none⟩ u) := Kp.setCell (S := fun k => k = r) (p := ⟨r, i, none⟩) (Kp.refl _ w) (fun _ => rfl) u
theorem RdrAt.kept {S : Nat → Prop} {w w' : World} {r : Nat} {s : Bytes} {bad : Int} (h : RdrAt w r s bad) (hk : Kp S w w') (hS : ¬ S r) : RdrAt w' r s bad := hk.heap h hS
theorem RdrAt.below {w w' : World} {r : Nat} {s : Bytes} {bad : Int} (h : RdrAt w r s bad) (hb : Below w.heap.size w w') : RdrAt w' r s bad := (hb.block r (lt_of_block h)).trans h
theorem RdrAt.lt {w : World} {r : Nat} {s : Bytes} {bad : Int} (h : RdrAt w r s bad) : r < w.heap.size := lt_of_block h

theorem RdrAt.drew {w : World} {r : Nat} {s : Bytes} {bad : Int} (h : RdrAt w r s bad) : RdrAt w.drew r s bad := h
theorem octet_Read (s : Bytes) (w : World) :
    Calls Try.prog 63 #[str s] w fun e w' => e = .returned (rptr w.heap.size) ∧ w.alloc (.cells #[str s, .int .i64 0] 146) = w' := by
  go_enter Try.func63, Try.ntmps63
  go_wp2
  go_ret
  exact ⟨rfl, rfl⟩

theorem octet_fail (r : Nat) (s : Bytes) (w : World) (h : RdrAt w r s 0) (e : Int) :
    Calls Try.prog 79 #[rptr r, .int .i64 e] w fun en w' => en = .returned (.tuple #[]) ∧ RdrAt w' r s e ∧ Only r w w' := by
  obtain ⟨h0, h1, f0, f1⟩ := h.facts
  go_enter Try.func79, Try.ntmps79
  go_wp2
  go_end0
  exact ⟨rfl, h.setBad e, only_set _ _ _ _⟩

theorem octet_take (r : Nat) (s : Bytes) (n : Nat) (w : World) (h : RdrAt w r s 0) (hn : n ≤ s.length) (hs : s.length ≤ 1048576) :
    Calls Try.prog 80 #[rptr r, .int .i64 0, .int .i64 n] w fun en w' => en = .returned (str (s.take n)) ∧ RdrAt w' r (s.drop n) 0 ∧ Only r w w' := by
  obtain ⟨h0, h1, f0, f1⟩ := h.facts
  have H := hid h
  clear h
  go_enter Try.func80, Try.ntmps80
  go_wp2_with fail
  go_ret
  have h' : RdrAt (w.setCell ⟨r, 0, none⟩ (.string ((ByteArray.mk s.toArray).extract n s.length))) r (s.drop n) 0 := by
    rw [str_post]; exact H.out.setS _
  exact ⟨by simp only [Array.getD]; exact congrArg Ending.returned (str_pre s n), h', only_set _ _ _ _⟩

theorem octet_take_short (r : Nat) (s : Bytes) (n : Nat) (w : World) (h : RdrAt w r s 0) (hn : s.length < n) (hn2 : n ≤ 1048576) :
    Calls Try.prog 80 #[rptr r, .int .i64 0, .int .i64 n] w fun en w' => en = .returned (str []) ∧ RdrAt w' r s 2 ∧ Only r w w' := by
  obtain ⟨h0, h1, f0, f1⟩ := h.facts
  have H := hid h
  clear h
  go_enter Try.func80, Try.ntmps80
  go_wp2_with fail
  refine (octet_fail _ _ _ H.out 2).mono ?_
  rintro e w' ⟨rfl, hr, hk⟩
  go_wp2
  go_ret
  exact ⟨rfl, hr, hk⟩

/-- A number out of its bytes, the highest ahead. -/
def beVal (l : Bytes) : Int := l.foldl (fun n c => n * 256 + (c.toNat : Int)) 0
theorem beVal_snoc (s : Bytes) (k : Nat) (h : k < s.length) : beVal (s.take (k + 1)) = beVal (s.take k) * 256 + ((s.getD k 0).toNat : Int) := by
  have e : s.getD k 0 = s[k] := by simp [h]
  rw [List.take_succ_eq_append_getElem h, e]
  unfold beVal
  rw [List.foldl_append]; rfl
theorem beVal_bd (s : Bytes) : 0 ≤ beVal s ∧ beVal s < 256 ^ s.length := by
  suffices ∀ (n : Nat) (s : Bytes), s.length = n → 0 ≤ beVal s ∧ beVal s < 256 ^ s.length from this _ s rfl
  intro n
  induction n with
  | zero => intro s hs; have : s = [] := List.eq_nil_of_length_eq_zero hs; subst this; simp [beVal]
  | succ n ih =>
    intro s hs
    have h1 := beVal_snoc s n (by omega)
    rw [List.take_of_length_le (by omega)] at h1
    have h2 := ih (s.take n) (by simp; omega)
    have h3 : (s.take n).length = n := by simp; omega
    rw [h3] at h2
    have h4 := (s.getD n 0).toNat_lt
    rw [h1, hs, Int.pow_succ]
    omega
theorem or_byte (x y : Int) (hx0 : 0 ≤ x) (hx : x < 18446744073709551616) (h8 : x % 256 = 0) (hy0 : 0 ≤ y) (hy : y < 256) : bits .or .u64 x y = x + y := by
  refine bits_join .u64 64 (by decide) (fun n h0 h1 => ?_) 8 x y hx0 (by simpa using h8) (by simpa using hx) hy0 (by simpa using hy) (by simp; omega)
  simp [IntKind.wrap, IntKind.bits, IntKind.signed]
  omega

theorem octet_ReaderNum (r : Nat) (s : Bytes) (k : Nat) (hk1 : 1 ≤ k) (hk7 : k ≤ 7) (w : World) (h : RdrAt w r s 0) (hn : k ≤ s.length) (hs : s.length ≤ 1048576) :
    Calls Try.prog 64 #[rptr r, .int .i64 k] w fun en w' => en = .returned (.int .u64 (beVal (s.take k))) ∧ RdrAt w' r (s.drop k) 0 ∧ Only r w w' := by
  have H := hid h
  clear h
  go_enter Try.func64, Try.ntmps64
  go_wp2_with fail
  refine (octet_take _ _ k _ H.out hn hs).mono ?_
  rintro e w1 ⟨rfl, hr, hk⟩
  have htl : (s.take k).length = k := by simp; omega
  generalize ht : s.take k = t at htl ⊢
  have Ht := hid ht
  clear ht
  go_wp2_with (refine w_strbytes rfl _ rfl t rfl (by unfold maxLen; omega) ?_; intro v2 w2 hown hb2 hf2; obtain ⟨p2, c2, rfl⟩ := hown.form)
  have Hown := hid hown
  clear hown hf2
  go_loop [5, 25] (fun v i => ∃ j : Nat, j ≤ t.length ∧ i = .int .i64 j ∧ v = .int .u64 (beVal (t.take j))) (fun _ i => t.length - (intOf i).toNat)
  case atStart => exact ⟨0, by omega, rfl, rfl⟩
  case round =>
    obtain ⟨j, hj, rfl, rfl⟩ := hrel
    by_cases hlt : j < t.length
    · obtain ⟨g, o, rfl, hnc, hcap, hg, hcell⟩ := Hown.out.rd.place (by omega)
      have hc := hcell j (.int .u8 ((t.getD j 0).toNat : Int)) (by simp [byteVals, hlt])
      have hb := beVal_bd (t.take j)
      have hjl : (t.take j).length = j := by simp; omega
      have hp : (256 : Nat) ^ j ≤ 256 ^ 6 := Nat.pow_le_pow_right (by decide) (by omega)
      have hp2 : ((256 ^ j : Nat) : Int) = (256 : Int) ^ j := by simp
      rw [hjl] at hb
      have hsn := beVal_snoc t j hlt
      generalize beVal (t.take j) = n at *
      have hn1 : n < 281474976710656 := by omega
      have hn0 : 0 ≤ n := hb.1
      generalize hcd : t.getD j 0 = c at *
      have hcb := c.toNat_lt
      have Hor := hid (or_byte (n * 256) (c.toNat : Int) (by omega) (by omega) (by omega) (by omega) (by omega))
      have Hsn := hid hsn
      clear hb hp hp2 hsn hcell hcd
      go_wp2
      go_round
      case rel => exact ⟨j + 1, by omega, by go_num, by rw [Hor.out, Hsn.out]⟩
      case measure => simp [intOf]; omega
    · obtain rfl : j = t.length := by omega
      rw [List.take_length]
      go_wp2
      go_ret
      exact ⟨by rw [Ht.out]; rfl, hr.below hb2, hk.trans (Kp.of_below hb2)⟩

theorem octet_ReaderNum_short (r : Nat) (k : Nat) (hk1 : 1 ≤ k) (hk7 : k ≤ 7) (w : World) (h : RdrAt w r [] 0) :
    Calls Try.prog 64 #[rptr r, .int .i64 k] w fun en w' => en = .returned (.int .u64 0) ∧ RdrAt w' r [] 2 ∧ Only r w w' := by
  have H := hid h
  clear h
  go_enter Try.func64, Try.ntmps64
  go_wp2_with fail
  refine (octet_take_short _ _ k _ H.out (by simp; omega) (by omega)).mono ?_
  rintro e w1 ⟨rfl, hr, hk⟩
  go_wp2_with (refine w_strbytes rfl _ rfl [] rfl (by simp) ?_; intro v2 w2 hown hb2 hf2; obtain ⟨p2, c2, rfl⟩ := hown.form)
  clear hown hf2
  refine wp_loop_rounds 1 ?_
  rw [rounds_succ]
  go_wp2
  go_ret
  exact ⟨rfl, hr.below hb2, hk.trans (Kp.of_below hb2)⟩

theorem octet_ReaderRaw (r : Nat) (s : Bytes) (k : Nat) (w : World) (h : RdrAt w r s 0) (hn : k ≤ s.length) (hs : s.length ≤ 1048576) :
    Calls Try.prog 76 #[rptr r, .int .i64 k] w fun en w' => en = .returned (str (s.take k)) ∧ RdrAt w' r (s.drop k) 0 ∧ Only r w w' := by
  go_enter Try.func76, Try.ntmps76
  go_wp2_with fail
  refine (octet_take _ _ k _ h hn hs).mono ?_
  rintro e w1 ⟨rfl, hr, hk⟩
  go_wp2
  go_ret
  exact ⟨rfl, hr, hk⟩

theorem octet_ReaderLeft (r : Nat) (s : Bytes) (bad : Int) (w : World) (h : RdrAt w r s bad) :
    Calls Try.prog 75 #[rptr r] w fun en w' => en = .returned (.int .i64 s.length) ∧ w = w' := by
  obtain ⟨h0, h1, f0, f1⟩ := h.facts
  go_enter Try.func75, Try.ntmps75
  go_wp2
  go_ret
  exact ⟨rfl, rfl⟩

/-- What was written is read. -/
theorem beBytes_snoc (n : Int) (k : Nat) : beBytes n (k + 1) = crcByte n k :: beBytes n k := rfl
theorem beVal_cons (c : UInt8) (l : Bytes) : beVal (c :: l) = (c.toNat : Int) * 256 ^ l.length + beVal l := by
  suffices ∀ (l : Bytes) (a : Int), l.foldl (fun n c => n * 256 + (c.toNat : Int)) a = a * 256 ^ l.length + beVal l by
    have := this l (c.toNat : Int)
    unfold beVal at *
    simpa using this
  intro l
  induction l with
  | nil => intro a; simp [beVal]
  | cons d l ih =>
    intro a
    have h1 := ih (a * 256 + (d.toNat : Int))
    have h2 := ih ((d.toNat : Int))
    simp only [List.foldl_cons, List.length_cons]
    rw [h1]
    have : beVal (d :: l) = l.foldl (fun n c => n * 256 + (c.toNat : Int)) (d.toNat : Int) := by simp [beVal]
    rw [this, h2, Int.pow_succ, Int.add_mul]
    have e : a * (256 ^ l.length * 256) = a * 256 * 256 ^ l.length := by rw [Int.mul_assoc, Int.mul_comm (256 ^ l.length) 256]
    rw [e]
    omega
theorem beVal_be (n : Int) (k : Nat) (h0 : 0 ≤ n) : beVal (beBytes n k) = n % 256 ^ k := by
  induction k with
  | zero => simp [beBytes, beVal, Int.emod_one]
  | succ k ih =>
    rw [beBytes_snoc, beVal_cons, beBytes_length, ih, crcByte_val n k h0]
    have e : (2 : Int) ^ (8 * k) = 256 ^ k := by rw [Int.pow_mul]; rfl
    rw [e, Int.pow_succ]
    obtain ⟨m, rfl⟩ := Int.eq_ofNat_of_zero_le h0
    have h1 := Nat.mod_mul (x := m) (a := 256 ^ k) (b := 256)
    have e2 : ((256 ^ k : Nat) : Int) = (256 : Int) ^ k := by simp
    rw [← e2]
    have h2 : ((m % (256 ^ k * 256) : Nat) : Int) = ((m % 256 ^ k + 256 ^ k * (m / 256 ^ k % 256) : Nat) : Int) := by rw [h1]
    simp only [Int.natCast_emod, Int.natCast_mul, Int.natCast_add, Int.natCast_ediv] at h2
    rw [Int.mul_comm ((m : Int) / _ % 256)]
    simp only [Int.cast_ofNat_Int] at h2
    omega
theorem beVal_be' (n : Int) (k : Nat) (h0 : 0 ≤ n) (h : n < 256 ^ k) : beVal (beBytes n k) = n := by
  rw [beVal_be n k h0, Int.emod_eq_of_lt h0 h]
end Go.Proofs.Ytlpnomejpaoeaaa
