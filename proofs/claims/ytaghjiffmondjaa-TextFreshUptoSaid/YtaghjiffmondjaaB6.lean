/-
  text.Dec: decimal digits of every int.
-/
import Derived.Test.YtaghjiffmondjaaB5
set_option linter.unusedSimpArgs false
set_option linter.unusedVariables false
namespace Go.Proofs.Ytaghjiffmondjaa
open Go.RowKit

/-- decimal digits -/
def decN : Nat → Nat → List UInt8
  | 0, _ => []
  | k + 1, n => (if n < 10 then [] else decN k (n / 10)) ++ [UInt8.ofNat (48 + n % 10)]

theorem arr20_zero (w : World) : (zeroValue 53).run Try.prog w = .ok (.agg (zerosN 20)) w := by kernel_rfl

theorem decN_succ : ∀ (k n : Nat), n < 10 ^ (k + 1) → decN (k + 2) n = decN (k + 1) n
  | 0, n, h => by simp only [decN]; rw [if_pos (by omega), if_pos (by omega)]
  | k + 1, n, h => by
    have e1 : decN (k + 1 + 2) n = (if n < 10 then [] else decN (k + 2) (n / 10)) ++ [UInt8.ofNat (48 + n % 10)] := rfl
    have e2 : decN (k + 1 + 1) n = (if n < 10 then [] else decN (k + 1) (n / 10)) ++ [UInt8.ofNat (48 + n % 10)] := rfl
    rw [e1, e2, decN_succ k (n / 10) (by rw [Nat.pow_succ] at h; omega)]
theorem decN_step (v : Nat) (hv : v < 10 ^ 20) : decN 20 v = (if 0 < v / 10 then decN 20 (v / 10) else []) ++ [UInt8.ofNat (48 + v % 10)] := by
  rw [decN_succ 18 (v / 10) (by omega), decN]
  congr 1
  by_cases h : v < 10
  · rw [if_pos h, if_neg (by omega)]
  · rw [if_neg h, if_pos (by omega)]

/-- in the loop: place at, v left, the digits behind at -/
structure DecW (B : Nat) (m p v : Nat) (sfx : List UInt8) (w : World) : Prop where
  arr : ∃ A : Array Value, w.heap[B]? = some (.cells A 53 (0, 0)) ∧ A.size = 20 ∧ ∀ i, i < sfx.length → A[p + i]? = some (bv (sfx.getD i 0))
  len : sfx.length = 20 - p
  le : p ≤ 20
  bound : v < 10 ^ p
  small : v < 18446744073709551616
  digits : decN 20 m = (if 0 < v ∨ p = 20 then decN 20 v else []) ++ sfx

theorem DecW.start (w : World) (m : Nat) (hm : m ≤ 9223372036854775808) : DecW w.heap.size m 20 m [] (w.alloc (.cells (zerosN 20) 53)) :=
  ⟨⟨_, heap_alloc_new _ _, by simp [zerosN], fun i hi => by simp at hi⟩, rfl, Nat.le_refl _, by omega, by omega, by simp⟩

theorem DecW.step {B m p v : Nat} {sfx : List UInt8} {w : World} (h : DecW B m p v sfx w) (hp : 0 < v ∨ p = 20) (c : UInt8) (hc : c = UInt8.ofNat (48 + v % 10)) :
    DecW B m (p - 1) (v / 10) (c :: sfx) (w.setCell ⟨B, p - 1, none⟩ (bv c)) ∧ 0 < p := by
  obtain ⟨⟨A, hA, hs, hi⟩, hl, hle, hb, hsm, hd⟩ := h
  have hp0 : 0 < p := by
    rcases Nat.eq_zero_or_pos p with rfl | h
    · simp at hb; omega
    · exact h
  obtain ⟨q, rfl⟩ : ∃ q, p = q + 1 := ⟨p - 1, by omega⟩
  refine ⟨⟨⟨_, block_setCell hA _, by simp [hs], ?_⟩, by simp [hl]; omega, by omega, ?_, by omega, ?_⟩, hp0⟩
  · intro i hi'
    cases i with
    | zero => simp [hs, show q < 20 by omega]
    | succ i =>
      have := hi i (by simpa using hi')
      rw [show q + 1 - 1 + (i + 1) = q + 1 + i by omega]
      simp only [Nat.add_sub_cancel, List.getD_cons_succ]
      rw [Array.getElem?_setIfInBounds_ne (by omega)]
      exact this
  · rw [Nat.pow_succ] at hb; simp; omega
  · rw [hd, if_pos hp, decN_step v (by have := Nat.pow_le_pow_right (n := 10) (by omega) hle; omega), hc]
    by_cases h : 0 < v / 10
    · rw [if_pos h, if_pos (.inl h)]; simp
    · rw [if_neg h, if_neg (by omega)]; simp

def digitC (v : Nat) : UInt8 := UInt8.ofNat (48 + v % 10)
theorem digitC_val (v : Nat) : bv (digitC v) = .int .u8 (48 + (v : Int) % 10) := by
  unfold bv digitC
  congr 1
  have : (UInt8.ofNat (48 + v % 10)).toNat = 48 + v % 10 := by simp; omega
  rw [this]; simp

theorem decN_len : ∀ (k j n : Nat), n < 10 ^ (k + 1) → (decN j n).length ≤ k + 1
  | k, 0, n, _ => by simp [decN]
  | 0, j + 1, n, h => by simp only [decN]; rw [if_pos (by omega)]; simp
  | k + 1, j + 1, n, h => by
    simp only [decN, List.length_append, List.length_singleton]
    by_cases h10 : n < 10
    · rw [if_pos h10]; simp
    · rw [if_neg h10]; have := decN_len k j (n / 10) (by rw [Nat.pow_succ] at h; omega); omega

theorem arr_string {w : World} {B q : Nat} {A : Array Value} {l : List UInt8} {n cap : Nat} (hA : w.heap[B]? = some (.cells A 53 (0, 0))) (hn : l.length = n) (hi : ∀ i, i < l.length → A[q + i]? = some (bv (l.getD i 0))) :
    (convert 52 9 (.slice (some ⟨B, q, none⟩) n cap)).run Try.prog w = .ok (.string ⟨l.toArray⟩) w := by
  subst hn
  have hr := run_convert_bytes_arg (P := Try.prog) w 52 5 Try.underlying52 Try.underlying5 B q l.length cap (l.map fun c => (c.toNat : Int)) (by simp) (fun i hi' => by
    simp only [World.cell?, hA]
    have := hi i hi'
    simp [this, bv, List.getD, hi']) 9 Try.underlying9
  rw [hr]
  congr 2
  have e : strOfNums (l.map fun c => (c.toNat : Int)) = ⟨l.toArray⟩ := by
    unfold strOfNums
    congr 2
    rw [List.map_map]
    conv => rhs; rw [← List.map_id l]
    apply List.map_congr_left
    intro c _
    simp
  rw [e]

theorem DecW.done {B m p : Nat} {sfx : List UInt8} {w : World} (h : DecW B m p 0 sfx w) (hp : p < 20) : decN 20 m = sfx := by
  rw [h.digits, if_neg (by omega)]; rfl

set_option maxRecDepth 100000 in
theorem dec_loop (z : Int) (neg : Bool) (n : Nat) (hn : n ≤ 9223372036854775808) (e1 : decide (z < 0) = neg) (u1 : neg = false → IntKind.u64.wrap z = (n : Int)) (u2 : neg = true → IntKind.u64.wrap (-IntKind.u64.wrap z) = (n : Int)) (w : World) :
    Calls Try.prog 18 #[.int .i64 z] w fun e w' => e = .returned (.string ⟨((if neg then [45] else []) ++ decN 20 n).toArray⟩) ∧ Below w.heap.size w w' := by
  have hz := arr20_zero
  have HD := Lib.hid (DecW.start w n hn)
  have HB := Lib.hid ((Below.refl w.heap.size w).alloc (Nat.le_refl _) (.cells (zerosN 20) 53))
  have HN := Lib.hid hn
  clear hn
  cases neg
  · have u1 := u1 rfl
    clear u2
    go_enter Try.func18, Try.ntmps18
    go_wp2
    go_loopw [4, 5] (fun a b wr => ∃ p v : Nat, ∃ sfx, a = .int .i64 p ∧ b = .int .u64 v ∧ (0 < v ∨ p = 20) ∧ Hid (DecW w.heap.size n p v sfx wr) ∧ Hid (Below w.heap.size w wr)) (fun a _ _ => (intOf a).toNat)
    case atStart => exact ⟨20, n, [], rfl, rfl, .inr rfl, HD, HB⟩
    case round =>
      clear HD HB
      obtain ⟨p, v, sfx, rfl, rfl, hpv, HD, HB⟩ := hrel
      have hp0 := (HD.out.step hpv (digitC v) rfl).2
      have hD := (HD.out.step hpv (digitC v) rfl).1
      have hple := HD.out.le
      have hv64 := HD.out.small
      obtain ⟨A, hA, hAs, _⟩ := HD.out.arr
      obtain ⟨x0, hc0⟩ : ∃ x0, wr.cell? ⟨w.heap.size, p - 1, none⟩ = some x0 := ⟨_, cell_of_block (off := p - 1) hA (by omega)⟩
      have hf0 := frozen_of_block (off := p - 1) hA
      have hq : IntKind.u64.wrap ((v : Int) / 10) = ((v / 10 : Nat) : Int) := by rw [IntKind.wrap_u64]; omega
      rw [digitC_val] at hD
      have HX := Lib.hid hD
      have b1 : 1 ≤ (p : Int) := by omega
      have b2 : (p : Int) - 1 ≤ 20 := by omega
      by_cases h10 : v / 10 = 0
      · have t1 : (((v / 10 : Nat) : Int) == 0) = true := by rw [h10]; rfl
        rw [h10] at hD
        obtain ⟨A', hA', _, hi'⟩ := hD.arr
        have hconv := arr_string (cap := 20 - (p - 1)) hA' hD.len hi'
        have HR := Lib.hid (hD.done (by omega))
        have b3 : ¬ (20 = p - 1) := by omega
        clear hpv hD hA hAs hv64 h10 hA' hi'
        go_wp2
        go_ret
        exact ⟨by rw [HR.out]; rfl, HB.out.setCell (Nat.le_refl _) _⟩
      · have t1 : (((v / 10 : Nat) : Int) == 0) = false := by simp; omega
        have hX : 0 < v / 10 := by omega
        clear hpv hD hA hAs hv64 h10
        go_wp2
        refine ⟨⟨p - 1, v / 10, _, by go_num, by go_num, .inl hX, HX, Lib.hid (HB.out.setCell (Nat.le_refl _) _)⟩, by simp [intOf]; omega⟩
  · have u2 := u2 rfl
    clear u1
    go_enter Try.func18, Try.ntmps18
    go_wp2
    go_loopw [4, 5] (fun a b wr => ∃ p v : Nat, ∃ sfx, a = .int .i64 p ∧ b = .int .u64 v ∧ (0 < v ∨ p = 20) ∧ Hid (DecW w.heap.size n p v sfx wr) ∧ Hid (Below w.heap.size w wr)) (fun a _ _ => (intOf a).toNat)
    case atStart => exact ⟨20, n, [], rfl, rfl, .inr rfl, HD, HB⟩
    case round =>
      clear HD HB
      obtain ⟨p, v, sfx, rfl, rfl, hpv, HD, HB⟩ := hrel
      have hp0 := (HD.out.step hpv (digitC v) rfl).2
      have hD := (HD.out.step hpv (digitC v) rfl).1
      have hple := HD.out.le
      have hv64 := HD.out.small
      obtain ⟨A, hA, hAs, _⟩ := HD.out.arr
      obtain ⟨x0, hc0⟩ : ∃ x0, wr.cell? ⟨w.heap.size, p - 1, none⟩ = some x0 := ⟨_, cell_of_block (off := p - 1) hA (by omega)⟩
      have hf0 := frozen_of_block (off := p - 1) hA
      have hq : IntKind.u64.wrap ((v : Int) / 10) = ((v / 10 : Nat) : Int) := by rw [IntKind.wrap_u64]; omega
      rw [digitC_val] at hD
      have HX := Lib.hid hD
      have b1 : 1 ≤ (p : Int) := by omega
      have b2 : (p : Int) - 1 ≤ 20 := by omega
      by_cases h10 : v / 10 = 0
      · have t1 : (((v / 10 : Nat) : Int) == 0) = true := by rw [h10]; rfl
        rw [h10] at hD
        obtain ⟨A', hA', hAs', hi'⟩ := hD.arr
        have HR := Lib.hid (hD.done (by omega))
        have hlen := decN_len 18 20 n (by have := HN.out; omega)
        rw [HR.out] at hlen
        have hlen2 := hD.len
        have b3 : ¬ (20 = p - 1 - 1) := by omega
        have b4 : 2 ≤ (p : Int) := by omega
        have b5 : 2 ≤ p := by omega
        have b6 : 1 ≤ (p : Int) - 1 := by omega
        have b7 : (p : Int) - 1 - 1 ≤ 20 := by omega
        have b8 : 0 ≤ (p : Int) - 1 - 1 := by omega
        have hc1 : ∃ x1, (wr.setCell ⟨w.heap.size, p - 1, none⟩ (.int .u8 (48 + (v : Int) % 10))).cell? ⟨w.heap.size, p - 1 - 1, none⟩ = some x1 := ⟨_, cell_of_block (off := p - 1 - 1) hA' (by omega)⟩
        obtain ⟨x1, hc1⟩ := hc1
        have hf1 := frozen_of_block (off := p - 1 - 1) hA'
        have hconv2 := arr_string (l := 45 :: digitC v :: sfx) (n := 20 - (p - 1 - 1)) (q := p - 1 - 1) (cap := 20 - (p - 1 - 1)) (block_setCell (off := p - 1 - 1) hA' (.int .u8 45)) (by simp at hlen2 ⊢; omega) (fun i hi => by
          cases i with
          | zero => simp [show p - 1 - 1 < A'.size by omega]; rfl
          | succ i =>
            have := hi' i (by simpa using hi)
            rw [show p - 1 - 1 + (i + 1) = p - 1 + i by omega, List.getD_cons_succ, Array.getElem?_setIfInBounds_ne (by omega)]
            exact this)
        clear hpv hD hA hAs hv64 h10 hA' hi' hAs' hlen hlen2
        go_wp2
        go_ret
        exact ⟨by rw [HR.out]; rfl, (HB.out.setCell (Nat.le_refl _) _).setCell (Nat.le_refl _) _⟩
      · have t1 : (((v / 10 : Nat) : Int) == 0) = false := by simp; omega
        have hX : 0 < v / 10 := by omega
        clear hpv hD hA hAs hv64 h10
        go_wp2
        refine ⟨⟨p - 1, v / 10, _, by go_num, by go_num, .inl hX, HX, Lib.hid (HB.out.setCell (Nat.le_refl _) _)⟩, by simp [intOf]; omega⟩
/-- the text of a number -/
def dec (z : Int) : ByteArray := ⟨((if z < 0 then [45] else []) ++ decN 20 z.natAbs).toArray⟩
theorem dec_calls (z : Int) (hz : -9223372036854775808 ≤ z ∧ z < 9223372036854775808) (w : World) :
    Calls Try.prog 18 #[.int .i64 z] w fun e w' => e = .returned (.string (dec z)) ∧ Below w.heap.size w w' := by
  by_cases h : z < 0
  · have := dec_loop z true z.natAbs (by omega) (by simp [h]) (fun h => by cases h) (fun _ => by simp only [IntKind.wrap_u64]; omega) w
    unfold dec
    rw [if_pos h]
    exact this
  · have := dec_loop z false z.natAbs (by omega) (by simp [h]) (fun _ => by simp only [IntKind.wrap_u64]; omega) (fun h => by cases h) w
    unfold dec
    rw [if_neg h]
    exact this
end Go.Proofs.Ytaghjiffmondjaa
