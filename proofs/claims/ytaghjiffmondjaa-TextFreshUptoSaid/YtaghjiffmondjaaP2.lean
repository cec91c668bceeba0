/-
  Plain laws: base64 and hexadecimal digits, written and read back.
-/
import Derived.Test.YtaghjiffmondjaaP1
set_option linter.unusedVariables false
set_option linter.unusedSimpArgs false
namespace Go.Proofs.Ytaghjiffmondjaa
open Go.RowKit

theorem all_below {n : Nat} {p : Nat → Bool} (h : ((List.range n).all p) = true) (i : Nat) (hi : i < n) : p i = true :=
  List.all_eq_true.1 h i (List.mem_range.2 hi)
theorem tb_small (n : Nat) (h : n < 16) : tb SMALL (dg SMALL n) = n + 1 := by
  have := all_below (n := 16) (p := fun n => tb SMALL (dg SMALL n) == n + 1) (by kernel_rfl) n h
  simpa using this
theorem tb_signs (n : Nat) (h : n < 64) : tb SIGNS (dg SIGNS n) = n + 1 := by
  have := all_below (n := 64) (p := fun n => tb SIGNS (dg SIGNS n) == n + 1) (by kernel_rfl) n h
  simpa using this
def AMONG4 : ByteArray := ⟨([65, 66, 67, 68, 69, 70, 71, 72, 73, 74, 75, 76, 77, 78, 79, 80, 81, 82, 83, 84, 85, 86, 87, 88, 89, 90, 97, 98, 99, 100, 101, 102].append [103, 104, 105, 106, 107, 108, 109, 110, 111, 112, 113, 114, 115, 116, 117, 118, 119, 120, 121, 122, 48, 49, 50, 51, 52, 53, 54, 55, 56, 57, 43, 47, 61]).toArray⟩
theorem signs_among (n : Nat) (h : n < 64) : AMONG4.data.toList.contains (dg SIGNS n) = true ∧ dg SIGNS n ≠ 61 := by
  have := all_below (n := 64) (p := fun n => AMONG4.data.toList.contains (dg SIGNS n) && dg SIGNS n != 61) (by kernel_rfl) n h
  simp only [Bool.and_eq_true, bne_iff_ne] at this
  exact this
theorem small_among (n : Nat) (h : n < 16) : SMALL.data.toList.contains (dg SMALL n) = true :=
  all_below (n := 16) (p := fun n => SMALL.data.toList.contains (dg SMALL n)) (by kernel_rfl) n h

-- hexadecimal digits
theorem hstep_a (v d acc) : digStep 4 (v, 0, acc) d = (v * 16 + (d - 1), 4, acc) := rfl
theorem hstep_b (v d acc) : digStep 4 (v, 4, acc) d = (0, 0, acc ++ [UInt8.ofNat (v * 16 + (d - 1))]) := by
  show ((v * 16 + (d - 1)) % 1, 0, acc ++ [UInt8.ofNat ((v * 16 + (d - 1)) / 1)]) = _
  rw [Nat.mod_one, Nat.div_one]
theorem hex_two (acc : List UInt8) (c : UInt8) : (hexC c).foldl (fun s c => digStep 4 s (tb SMALL c)) (0, 0, acc) = (0, 0, acc ++ [c]) := by
  have hc := c.toNat_lt
  unfold hexC
  simp only [List.foldl_cons, List.foldl_nil, tb_small _ (show c.toNat / 16 < 16 by omega), tb_small _ (show c.toNat % 16 < 16 by omega)]
  rw [hstep_a, hstep_b]
  simp only [Nat.add_sub_cancel, Nat.zero_mul, Nat.zero_add]
  rw [show c.toNat / 16 * 16 + c.toNat % 16 = c.toNat by omega]
  simp
theorem hex_run (l acc : List UInt8) : (hexL l).foldl (fun s c => digStep 4 s (tb SMALL c)) (0, 0, acc) = (0, 0, acc ++ l) := by
  unfold hexL
  induction l generalizing acc with
  | nil => simp
  | cons c l ih => rw [List.flatMap_cons, List.foldl_append, hex_two, ih]; simp
theorem hexL_len (l : List UInt8) : (hexL l).length = 2 * l.length := by
  unfold hexL
  induction l with
  | nil => rfl
  | cons c l ih => rw [List.flatMap_cons, List.length_append, ih]; simp [hexC]; omega
theorem hexL_mem (l : List UInt8) : ∀ x ∈ hexL l, ∃ n, n < 16 ∧ x = dg SMALL n := by
  intro x hx
  obtain ⟨c, _, hc⟩ := List.mem_flatMap.1 hx
  have := c.toNat_lt
  unfold hexC at hc
  simp at hc
  rcases hc with rfl | rfl
  · exact ⟨c.toNat / 16, by omega, rfl⟩
  · exact ⟨c.toNat % 16, by omega, rfl⟩
theorem unHex_hex (s : ByteArray) : unHex (hex s) = (s, 0) := by
  have h1 : (hex s).data.toList = hexL s.data.toList := by simp [hex]
  have h2 : (hex s).size = 2 * s.size := by
    show (hexL s.data.toList).length = _
    rw [hexL_len]; simp
  unfold unHex
  rw [h1, h2, if_pos (by
    rw [Bool.and_eq_true]
    refine ⟨List.all_eq_true.2 fun x hx => ?_, by simp⟩
    obtain ⟨n, hn, rfl⟩ := hexL_mem _ x hx
    rw [tb_small n hn]; simp)]
  unfold digRun
  rw [hex_run]
  exact congrArg (·, (0 : Int)) (mk_data s)
theorem hex_app (s t : ByteArray) : hex (s ++ t) = hex s ++ hex t := bytes_ext (by
  simp [hex, hexL, ByteArray.data_append, List.flatMap_append])
theorem escape_app (s t : ByteArray) (hs : s.size ≠ 0) (ht : t.size ≠ 0) : escape (s ++ t) = escape s ++ escape t := by
  unfold escape
  rw [if_neg hs, if_neg ht, if_neg (by rw [ByteArray.size_append]; omega)]
  exact bytes_ext (by simp [escL, ByteArray.data_append, List.flatMap_append])

-- base64
theorem four_mem (n v : Nat) : ∀ x ∈ four n v, x = 61 ∨ ∃ k, k < 64 ∧ x = dg SIGNS k := by
  intro x hx
  obtain ⟨i, _, rfl⟩ := List.mem_map.1 hx
  split
  · exact .inl rfl
  · exact .inr ⟨_, Nat.mod_lt _ (by decide), rfl⟩
theorem b64L_mem : ∀ l : List UInt8, ∀ x ∈ b64L l, x = 61 ∨ ∃ k, k < 64 ∧ x = dg SIGNS k
  | [] => by simp [b64L]
  | [a] => by simp only [b64L]; exact four_mem _ _
  | [a, b] => by simp only [b64L]; exact four_mem _ _
  | a :: b :: c :: l => by
    simp only [b64L]
    intro x hx
    rcases List.mem_append.1 hx with hx | hx
    · exact four_mem _ _ x hx
    · exact b64L_mem l x hx
def sg (v i : Nat) : UInt8 := dg SIGNS (v / 2 ^ (18 - 6 * i) % 64)
theorem four3 (v : Nat) : four 3 v = [sg v 0, sg v 1, sg v 2, sg v 3] := rfl
theorem four2 (v : Nat) : four 2 v = [sg v 0, sg v 1, sg v 2, 61] := rfl
theorem four1 (v : Nat) : four 1 v = [sg v 0, sg v 1, 61, 61] := rfl
theorem sg_ne (v i : Nat) : sg v i ≠ 61 := (signs_among _ (Nat.mod_lt _ (by decide))).2
theorem tb_sg (v i : Nat) : tb SIGNS (sg v i) = v / 2 ^ (18 - 6 * i) % 64 + 1 := tb_signs _ (Nat.mod_lt _ (by decide))
/-- the signs without the marks behind -/
def rawL : List UInt8 → List UInt8
  | [] => []
  | [a] => [sg (val3 a 0 0) 0, sg (val3 a 0 0) 1]
  | [a, b] => [sg (val3 a b 0) 0, sg (val3 a b 0) 1, sg (val3 a b 0) 2]
  | a :: b :: c :: l => [sg (val3 a b c) 0, sg (val3 a b c) 1, sg (val3 a b c) 2, sg (val3 a b c) 3] ++ rawL l
theorem bare1_app (x y : List UInt8) (hy : y ≠ []) : bare1 (x ++ y) = x ++ bare1 y := by
  unfold bare1
  rw [show (x ++ y).getLast? = y.getLast? by
    rw [List.getLast?_append]
    cases hl : y.getLast? with
    | none => exact absurd (List.getLast?_eq_none_iff.1 hl) hy
    | some z => rfl]
  split
  · rw [List.dropLast_append_of_ne_nil hy]
  · rfl
theorem b64L_pos (l : List UInt8) (h : l ≠ []) : 4 ≤ (b64L l).length := by
  rw [b64L_len]
  have : l.length ≠ 0 := fun h2 => h (List.length_eq_zero_iff.1 h2)
  omega
theorem bare1_len (l : List UInt8) : l.length ≤ (bare1 l).length + 1 := by
  unfold bare1
  split
  · rw [List.length_dropLast]; omega
  · omega
theorem bare_raw : ∀ l : List UInt8, bare1 (bare1 (b64L l)) = rawL l
  | [] => rfl
  | [a] => by
    simp only [b64L, four1, rawL]
    unfold bare1
    simp [sg_ne]
  | [a, b] => by
    simp only [b64L, four2, rawL]
    unfold bare1
    simp [sg_ne]
  | a :: b :: c :: l => by
    simp only [b64L, four3, rawL]
    by_cases h : l = []
    · subst h
      unfold bare1
      simp [b64L, rawL, sg_ne]
    · have h4 := b64L_pos l h
      have h3 := bare1_len (b64L l)
      rw [bare1_app _ _ (fun h2 => by rw [h2] at h4; simp at h4), bare1_app _ _ (fun h2 => by rw [h2] at h3; simp at h3; omega), bare_raw l]
theorem rawL_mem : ∀ l : List UInt8, ∀ x ∈ rawL l, ∃ v i, x = sg v i
  | [] => by simp [rawL]
  | [a] => by
    intro x hx; simp [rawL] at hx; rcases hx with rfl | rfl <;> exact ⟨_, _, rfl⟩
  | [a, b] => by
    intro x hx; simp [rawL] at hx; rcases hx with rfl | rfl | rfl <;> exact ⟨_, _, rfl⟩
  | a :: b :: c :: l => by
    intro x hx
    simp only [rawL] at hx
    rcases List.mem_append.1 hx with hx | hx
    · simp at hx; rcases hx with rfl | rfl | rfl | rfl <;> exact ⟨_, _, rfl⟩
    · exact rawL_mem l x hx
theorem step_a (v d acc) : digStep 6 (v, 0, acc) d = (v * 64 + (d - 1), 6, acc) := rfl
theorem step_b (v d acc) : digStep 6 (v, 6, acc) d = ((v * 64 + (d - 1)) % 16, 4, acc ++ [UInt8.ofNat ((v * 64 + (d - 1)) / 16)]) := rfl
theorem step_c (v d acc) : digStep 6 (v, 4, acc) d = ((v * 64 + (d - 1)) % 4, 2, acc ++ [UInt8.ofNat ((v * 64 + (d - 1)) / 4)]) := rfl
theorem step_d (v d acc) : digStep 6 (v, 2, acc) d = (0, 0, acc ++ [UInt8.ofNat (v * 64 + (d - 1))]) := by
  show ((v * 64 + (d - 1)) % 1, 0, acc ++ [UInt8.ofNat ((v * 64 + (d - 1)) / 1)]) = _
  rw [Nat.mod_one, Nat.div_one]
theorem u8_of {n : Nat} {a : UInt8} (h : n = a.toNat) : UInt8.ofNat n = a := by subst h; simp
theorem raw_run : ∀ (l acc : List UInt8), ((rawL l).foldl (fun s c => digStep 6 s (tb SIGNS c)) (0, 0, acc)).2.2 = acc ++ l
  | [], acc => by simp [rawL]
  | [a], acc => by
    have ha := a.toNat_lt
    simp only [rawL, List.foldl_cons, List.foldl_nil, tb_sg, step_a, step_b, Nat.add_sub_cancel]
    rw [u8_of (a := a) (by unfold val3; simp only [show (0 : UInt8).toNat = 0 from rfl]; omega)]
  | [a, b], acc => by
    have ha := a.toNat_lt
    have hb := b.toNat_lt
    simp only [rawL, List.foldl_cons, List.foldl_nil, tb_sg, step_a, step_b, step_c, Nat.add_sub_cancel]
    rw [u8_of (a := a) (by unfold val3; simp only [show (0 : UInt8).toNat = 0 from rfl]; omega), u8_of (a := b) (by unfold val3; simp only [show (0 : UInt8).toNat = 0 from rfl]; omega)]
    simp
  | a :: b :: c :: l, acc => by
    have ha := a.toNat_lt
    have hb := b.toNat_lt
    have hc := c.toNat_lt
    simp only [rawL, List.foldl_append, List.foldl_cons, List.foldl_nil, tb_sg, step_a, step_b, step_c, step_d, Nat.add_sub_cancel]
    rw [u8_of (a := a) (by unfold val3; omega), u8_of (a := b) (by unfold val3; omega), u8_of (a := c) (by unfold val3; omega), raw_run l]
    simp
theorem bareB_b64 (s : ByteArray) : (bareB (b64 s)).data.toList = rawL s.data.toList := by
  have : (b64 s).data.toList = b64L s.data.toList := by simp [b64]
  simp only [bareB, this, bare_raw]
theorem unB64Of_b64 (s : ByteArray) : unB64Of (b64 s) = s := by
  unfold unB64Of digRun
  rw [bareB_b64, raw_run]
  exact mk_data s
theorem unB64_b64 (s : ByteArray) : unB64 (b64 s) = (s, 0) := by
  unfold unB64
  rw [unB64Of_b64, if_pos]
  refine ⟨List.all_eq_true.2 fun x hx => ?_, rfl⟩
  rw [bareB_b64] at hx
  obtain ⟨v, i, rfl⟩ := rawL_mem _ x hx
  rw [tb_sg]; simp
theorem b64L_app : ∀ l m : List UInt8, l.length % 3 = 0 → b64L (l ++ m) = b64L l ++ b64L m
  | [], m, _ => rfl
  | [a], m, h => by simp at h
  | [a, b], m, h => by simp at h
  | a :: b :: c :: l, m, h => by
    simp only [List.cons_append, b64L, List.append_assoc]
    rw [b64L_app l m (by simp at h; omega)]
theorem b64_app (s t : ByteArray) (h : s.size % 3 = 0) : b64 (s ++ t) = b64 s ++ b64 t := bytes_ext (by
  have := b64L_app s.data.toList t.data.toList (by simpa using h)
  simp [b64, ByteArray.data_append, this])
def amongB (s a : ByteArray) : Bool := s.data.toList.all fun c => a.data.toList.contains c
theorem among_b64 (s : ByteArray) : amongB (b64 s) AMONG4 = true := by
  unfold amongB
  refine List.all_eq_true.2 fun x hx => ?_
  have : (b64 s).data.toList = b64L s.data.toList := by simp [b64]
  rw [this] at hx
  rcases b64L_mem _ x hx with rfl | ⟨k, hk, rfl⟩
  · exact show AMONG4.data.toList.contains 61 = true by kernel_rfl
  · exact (signs_among k hk).1
theorem among_hex (s : ByteArray) : amongB (hex s) SMALL = true := by
  unfold amongB
  refine List.all_eq_true.2 fun x hx => ?_
  have : (hex s).data.toList = hexL s.data.toList := by simp [hex]
  rw [this] at hx
  obtain ⟨n, hn, rfl⟩ := hexL_mem _ x hx
  exact small_among n hn
theorem b64_size (s : ByteArray) : (b64 s).size = (s.size + 2) / 3 * 4 := by
  show (b64L s.data.toList).length = _
  rw [b64L_len]; simp
theorem hex_size (s : ByteArray) : (hex s).size = 2 * s.size := by
  show (hexL s.data.toList).length = _
  rw [hexL_len]; simp
end Go.Proofs.Ytaghjiffmondjaa
