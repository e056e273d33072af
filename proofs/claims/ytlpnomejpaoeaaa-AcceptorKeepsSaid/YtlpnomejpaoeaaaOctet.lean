/- Package octet: numbers, parts, Join. -/
import Derived.Test.YtlpnomejpaoeaaaCrc
namespace Go.Proofs.Ytlpnomejpaoeaaa
set_option linter.unusedSimpArgs false
set_option linter.unusedVariables false
open Go.RowKit
set_option maxHeartbeats 400000

/-- A number's bytes, the highest ahead. -/
def beBytes (n : Int) : Nat → Bytes
  | 0 => []
  | k + 1 => crcByte n k :: beBytes n k
theorem beBytes_length (n : Int) (k : Nat) : (beBytes n k).length = k := by
  induction k with
  | zero => rfl
  | succ k ih => simp [beBytes, ih]

/-- The row of 'number' after i rounds. -/
def numRow (n : Int) (k i : Nat) : List Value := List.replicate (k - i) (.int .u8 0) ++ byteVals (beBytes n i)
theorem numRow_length (n : Int) (k i : Nat) (h : i ≤ k) : (numRow n k i).length = k := by
  simp [numRow, byteVals, beBytes_length]; omega
theorem numRow_at (n : Int) (k i : Nat) (h : i < k) : (numRow n k i)[k - 1 - i]? = some (.int .u8 0) := by
  unfold numRow
  rw [List.getElem?_append_left (by simp; omega), List.getElem?_replicate, if_pos (by omega)]
theorem numRow_set (n : Int) (k i : Nat) (h : i < k) : (numRow n k i).set (k - 1 - i) (.int .u8 ((crcByte n i).toNat : Int)) = numRow n k (i + 1) := by
  unfold numRow
  have e : k - i = (k - (i + 1)) + 1 := by omega
  rw [e, List.replicate_succ', List.append_assoc, List.set_append_right _ _ (by simp; omega)]
  simp only [List.length_replicate]
  rw [show k - 1 - i - (k - (i + 1)) = 0 from by omega]
  simp [byteVals, beBytes]

theorem num_over (n : Int) (k : Nat) (h0 : 0 ≤ n) (h : n < 256 ^ k) : n / 2 ^ (8 * k) = 0 := by
  have e : (256 : Int) ^ k = 2 ^ (8 * k) := by rw [Int.pow_mul]; rfl
  rw [e] at h
  exact Int.ediv_eq_zero_of_lt h0 h

theorem octet_number (n : Int) (k : Nat) (hk : 1 ≤ k) (hk8 : k ≤ 8) (h0 : 0 ≤ n) (hn : n < 256 ^ k) (w : World) :
    Calls Try.prog 95 #[.int .u64 n, .int .i64 k] w fun e w' => e = .returned (.tuple #[str (beBytes n k), .int .i64 0]) ∧ Below w.heap.size w w' := by
  have hov := num_over n k h0 hn
  have hn64 : n < 18446744073709551616 := by
    have h1 : (256 : Nat) ^ k ≤ 256 ^ 8 := Nat.pow_le_pow_right (by decide) hk8
    have h2 : (256 : Nat) ^ 8 = 18446744073709551616 := by decide
    have h3 : ((256 ^ k : Nat) : Int) = (256 : Int) ^ k := by simp
    omega
  have Hn := hid hn64
  clear hn hn64
  go_enter Try.func95, Try.ntmps95
  go_wp2_with (refine w_mkbytes rfl _ _ rfl k rfl rfl (by omega) ?_)
  all_goals
    have hw0 : Below w.heap.size w (w.alloc (Obj.cells (Array.replicate k (Value.int IntKind.u8 0)) 5)) := below_alloc _ _
    have hh0 : (w.alloc (Obj.cells (Array.replicate k (Value.int IntKind.u8 0)) 5)).heap[w.heap.size]? = some (.cells (numRow n k 0).toArray 5 (0, 0)) := by
      rw [alloc_new]; simp [numRow, byteVals, beBytes]
    go_loopw [29] (fun i wr => ∃ j : Nat, j ≤ k ∧ i = .int .i64 j ∧ wr.heap[w.heap.size]? = some (.cells (numRow n k j).toArray 5 (0, 0)) ∧ Below w.heap.size w wr) (fun i _ => k - (intOf i).toNat)
    case atStart => exact ⟨0, by omega, rfl, hh0, hw0⟩
    case round =>
      obtain ⟨j, hj, rfl, hh, hb⟩ := hrel
      clear hw0 hh0
      by_cases hlt : j < k
      · have hc : wr.cell? ⟨w.heap.size, k - 1 - j, none⟩ = some (.int .u8 0) := by rw [cell_of hh]; simpa using numRow_at n k j hlt
        have hf : wr.frozen? ⟨w.heap.size, k - 1 - j, none⟩ = false := free_of hh _
        go_wp2
        have hb' : Below w.heap.size w (wr.setCell ⟨w.heap.size, k - 1 - j, none⟩ (.int .u8 (n / 2 ^ (8 * j) % 256))) := hb.setCell (Nat.le_refl _) _
        have hs := setCell_self (i := k - 1 - j) hh (.int .u8 (n / 2 ^ (8 * j) % 256))
        go_roundw
        case rel => exact ⟨j + 1, by omega, by go_num, by
          rw [hs]
          congr 2
          rw [← crcByte_val n j h0, List.setIfInBounds_toArray, numRow_set n k j hlt], hb'⟩
        case measure => simp [intOf]; omega
      · obtain rfl : j = k := by omega
        have hrd : Rd wr 1 (.slice (some ⟨w.heap.size, 0, none⟩) j j) j (byteVals (beBytes n j)) := by
          refine ⟨by simp [byteVals, beBytes_length], .inr ⟨_, 0, j, rfl, Nat.le_refl _, by unfold maxLen; omega, lt_of_block hh, fun i u hi => ?_⟩⟩
          rw [cell_of hh, Nat.zero_add]
          simpa [numRow] using hi
        go_wp2_with (refine w_bytesstr rfl _ rfl _ _ _ rfl hrd ?_)
        go_ret2
        exact ⟨rfl, hb⟩

/-- A part, by its four cells: a number, a text, bytes as they are. -/
structure Part where
  kind : Int
  size : Int
  n : Int
  s : Bytes
def Part.num (n : Int) (k : Nat) : Part := ⟨1, k, n, []⟩
def Part.text (s : Bytes) : Part := ⟨2, 0, 0, s⟩
def Part.raw (s : Bytes) : Part := ⟨3, 0, 0, s⟩
def Part.cells (p : Part) : List Value := [.int .i64 p.kind, .int .i64 p.size, .int .u64 p.n, str p.s]
def Part.bytes (p : Part) : Bytes := if p.kind = 1 then beBytes p.n p.size.toNat else if p.kind = 2 then UInt8.ofNat p.s.length :: p.s else p.s
inductive Part.ok : Part → Prop
  | num (n : Int) (k : Nat) (h : 1 ≤ k ∧ k ≤ 8 ∧ 0 ≤ n ∧ n < 256 ^ k) : Part.ok (Part.num n k)
  | text (s : Bytes) (h : s.length ≤ 255) : Part.ok (Part.text s)
  | raw (s : Bytes) (h : s.length ≤ 4096) : Part.ok (Part.raw s)
theorem Part.bytes_num (n : Int) (k : Nat) : (Part.num n k).bytes = beBytes n k := by simp [Part.bytes, Part.num]
theorem Part.bytes_text (s : Bytes) : (Part.text s).bytes = UInt8.ofNat s.length :: s := by simp [Part.bytes, Part.text]
theorem Part.bytes_raw (s : Bytes) : (Part.raw s).bytes = s := by simp [Part.bytes, Part.raw]
theorem Part.cells_length (p : Part) : p.cells.length = 4 := rfl
theorem Part.bytes_length (p : Part) (h : p.ok) : p.bytes.length ≤ 4096 := by
  cases h with
  | num n k h => rw [Part.bytes_num, beBytes_length]; omega
  | text s h => rw [Part.bytes_text, List.length_cons]; omega
  | raw s h => rw [Part.bytes_raw]; exact h

set_option maxHeartbeats 1000000 in
theorem octet_bytes (p : Part) (h : p.ok) (w : World) :
    Calls Try.prog 78 #[.agg #[.int .i64 p.kind, .int .i64 p.size, .int .u64 p.n, str p.s]] w fun e w' => e = .returned (.tuple #[str p.bytes, .int .i64 0]) ∧ Below w.heap.size w w' := by
  cases h with
  | num n k h =>
    obtain ⟨h1, h2, h3, h4⟩ := h
    have H4 := hid h4
    clear h4
    rw [Part.bytes_num]
    simp only [Part.num]
    go_enter Try.func78, Try.ntmps78
    go_wp2_with fail
    refine (octet_number n k h1 h2 h3 H4.out _).mono ?_
    rintro e w1 ⟨rfl, hb1⟩
    go_wp2
    go_ret2
    exact ⟨rfl, (below_alloc _ _).trans (hb1.mono (by simp))⟩
  | text s h =>
    rw [Part.bytes_text]
    simp only [Part.text]
    go_enter Try.func78, Try.ntmps78
    have hv : ∀ (W : World) (g : Nat), g = W.heap.size → Rd (W.alloc (.cells #[Value.int .u8 (s.length : Int)] 5)) 1 (.slice (some ⟨g, 0, none⟩) 1 1) 1 (byteVals [UInt8.ofNat s.length]) := fun W g hg => by
      subst hg
      have := Rd.lit W #[Value.int .u8 (s.length : Int)] 5 1 1 _ rfl rfl (by decide)
      have e : byteVals [UInt8.ofNat s.length] = [Value.int .u8 (s.length : Int)] := by simp [byteVals]; omega
      rw [e]; exact this
    go_wp2_with (refine w_bytesstr rfl _ rfl _ 1 [UInt8.ofNat s.length] rfl (hv _ _ (by simp)) ?_)
    go_ret2
    exact ⟨by simp [str]; exact ByteArray.mk_append_mk [_] s, ((below_alloc _ _).alloc (by simp) _)⟩
  | raw s h =>
    rw [Part.bytes_raw]
    simp only [Part.raw]
    go_enter Try.func78, Try.ntmps78
    go_wp2
    go_ret2
    exact ⟨rfl, below_alloc _ _⟩

/-- Parts, one behind the other, as cells and as bytes. -/
def partCells (l : List Part) : List Value := l.flatMap Part.cells
def partBytes (l : List Part) : Bytes := l.flatMap Part.bytes
theorem partCells_length (l : List Part) : (partCells l).length = l.length * 4 := by
  induction l with
  | nil => rfl
  | cons p l ih => simp only [partCells, List.flatMap_cons, List.length_append, Part.cells_length, List.length_cons] at ih ⊢; omega
theorem partBytes_snoc (l : List Part) (k : Nat) (h : k < l.length) : partBytes (l.take (k + 1)) = partBytes (l.take k) ++ l[k].bytes := by
  rw [List.take_succ_eq_append_getElem h, partBytes, List.flatMap_append]; simp [partBytes]
theorem partBytes_length (l : List Part) (h : ∀ p ∈ l, p.ok) : (partBytes l).length ≤ 4096 * l.length := by
  induction l with
  | nil => simp [partBytes]
  | cons p l ih =>
    have h1 := Part.bytes_length p (h p (by simp))
    have h2 := ih (fun q hq => h q (by simp [hq]))
    simp only [partBytes, List.flatMap_cons, List.length_append, List.length_cons] at h2 ⊢; omega
theorem partCells_at (l : List Part) (k i : Nat) (hk : k < l.length) (hi : i < 4) : (partCells l)[k * 4 + i]? = l[k].cells[i]? := by
  induction l generalizing k with
  | nil => simp at hk
  | cons p l ih =>
    simp only [partCells, List.flatMap_cons] at ih ⊢
    cases k with
    | zero => rw [List.getElem?_append_left (by rw [Part.cells_length]; omega)]; simp
    | succ k =>
      rw [List.getElem?_append_right (by rw [Part.cells_length]; omega), Part.cells_length]
      rw [show (k + 1) * 4 + i - 4 = k * 4 + i from by omega, ih k (by simpa using hk)]
      simp
set_option maxHeartbeats 1000000 in
theorem octet_Join (l : List Part) (hok : ∀ p ∈ l, p.ok) (hlen : l.length ≤ 200) (v : Value) (w : World) (hv : Rd w 4 v l.length (partCells l)) :
    Calls Try.prog 59 #[v] w fun e w' => e = .returned (.tuple #[str (partBytes l), .int .i64 0]) ∧ Below w.heap.size w w' := by
  rcases hv.2 with ⟨rfl, h0⟩ | ⟨g, o, cap, rfl, hn, hcap, hg, hcell⟩
  · have hl : l = [] := List.eq_nil_of_length_eq_zero h0
    subst hl
    go_enter Try.func59, Try.ntmps59
    go_wp2
    refine wp_loop_rounds 1 ?_
    rw [rounds_succ]
    go_wp2_with (refine w_bytesstr rfl _ rfl _ 0 [] rfl (Rd.nil _ _) ?_)
    go_ret2
    exact ⟨rfl, Below.refl _ _⟩
  · have Hc := hid hcell
    have Hok := hid hok
    clear hcell hok
    go_enter Try.func59, Try.ntmps59
    go_wp2
    go_loopw [4, 11] (fun v i wr => ∃ k : Nat, k ≤ l.length ∧ i = .int .i64 k ∧ Own wr 5 1 v (partBytes (l.take k)).length (byteVals (partBytes (l.take k))) ∧ Fresh w.heap.size v ∧ Below w.heap.size w wr) (fun _ i _ => l.length - (intOf i).toNat)
    case atStart => exact ⟨0, by omega, rfl, by simpa [partBytes, byteVals] using Own.nil w _ _, Fresh.nil _, Below.refl _ _⟩
    case round =>
      obtain ⟨k, hk, rfl, hown, hf, hb⟩ := hrel
      by_cases hlt : k < l.length
      · have hc : ∀ i v, l[k].cells[i]? = some v → i < 4 → wr.cell? ⟨g, o + (k * 4 + i), none⟩ = some v := fun i v hv hi => by
          rw [hb.cell (p := ⟨g, o + (k * 4 + i), none⟩) hg]
          exact Hc.out _ _ (by rw [partCells_at l k i hlt hi]; exact hv)
        have hc0 : wr.cell? ⟨g, o + k * 4, none⟩ = some (.int .i64 l[k].kind) := hc 0 _ rfl (by omega)
        have hc1 : wr.cell? ⟨g, o + k * 4 + 1, none⟩ = some (.int .i64 l[k].size) := hc 1 _ rfl (by omega)
        have hc2 : wr.cell? ⟨g, o + k * 4 + 2, none⟩ = some (.int .u64 l[k].n) := hc 2 _ rfl (by omega)
        have hc3 : wr.cell? ⟨g, o + k * 4 + 3, none⟩ = some (str l[k].s) := hc 3 _ rfl (by omega)
        clear hc
        have hpk : l[k].ok := Hok.out _ (List.getElem_mem hlt)
        have hpl := Part.bytes_length _ hpk
        have hpl2 : (partBytes (l.take k)).length ≤ 819200 := by
          have := partBytes_length (l.take k) (fun p hp => Hok.out p (List.mem_of_mem_take hp))
          have : (l.take k).length ≤ 200 := by simp; omega
          omega
        have hB : w.heap.size ≤ wr.heap.size := hb.size
        have Hpk := hid hpk
        have Hsn := hid (partBytes_snoc l k hlt)
        clear hpk
        go_wp2_with fail
        refine (octet_bytes _ Hpk.out _).mono ?_
        rintro e w1 ⟨rfl, hb1⟩
        have hb2 : Below wr.heap.size wr w1 := (below_alloc _ _).trans (hb1.mono (by simp))
        have hown1 := hown.below hb2
        clear hb1 hown
        go_wp2_with (refine w_appstr rfl _ _ rfl _ _ _ rfl hown1 rfl (by omega) ?_; intro v2 w2 hap)
        have hB1 : wr.heap.size ≤ w1.heap.size := hb2.size
        go_roundw
        case rel => exact ⟨k + 1, by omega, by go_num, by
          rw [Hsn.out, byteVals_append, List.length_append]; exact hap.own, hap.fresh hf (by omega), (hb.trans (hb2.mono hB)).trans (hap.below hf (by omega))⟩
        case measure => simp [intOf]; omega
      · obtain rfl : k = l.length := by omega
        rw [List.take_length] at hown
        go_wp2_with (refine w_bytesstr rfl _ rfl _ _ _ rfl hown.rd ?_)
        go_ret2
        exact ⟨rfl, hb⟩
end Go.Proofs.Ytlpnomejpaoeaaa
