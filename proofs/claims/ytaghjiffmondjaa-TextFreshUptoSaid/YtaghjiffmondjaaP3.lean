/-
  Plain laws: what is read has just this one text; numbers written and read.
-/
import Derived.Test.YtaghjiffmondjaaP2
set_option linter.unusedVariables false
set_option linter.unusedSimpArgs false
namespace Go.Proofs.Ytaghjiffmondjaa
open Go.RowKit

theorem dg_tb (c : UInt8) (h : tb SMALL c ≠ 0) : dg SMALL (tb SMALL c - 1) = c := by
  have := all_u8 (p := fun c => tb SMALL c == 0 || dg SMALL (tb SMALL c - 1) == c) (by kernel_rfl) c
  simp only [Bool.or_eq_true, beq_iff_eq] at this
  exact this.resolve_left h
theorem unhex_run : ∀ (l acc : List UInt8), l.length % 2 = 0 → (∀ c ∈ l, tb SMALL c ≠ 0) → ∃ m, l.foldl (fun s c => digStep 4 s (tb SMALL c)) (0, 0, acc) = (0, 0, acc ++ m) ∧ hexL m = l
  | [], acc, _, _ => ⟨[], by simp, rfl⟩
  | [x], acc, h, _ => by simp at h
  | x :: y :: l, acc, h, hc => by
    have hx := hc x (by simp)
    have hy := hc y (by simp)
    have lx := tb_le SMALL x
    have ly := tb_le SMALL y
    have hs : SMALL.size = 16 := rfl
    rw [hs] at lx ly
    obtain ⟨m, hm, he⟩ := unhex_run l (acc ++ [UInt8.ofNat ((tb SMALL x - 1) * 16 + (tb SMALL y - 1))]) (by simp at h; omega) (fun c hcm => hc c (by simp [hcm]))
    refine ⟨UInt8.ofNat ((tb SMALL x - 1) * 16 + (tb SMALL y - 1)) :: m, ?_, ?_⟩
    · simp only [List.foldl_cons, hstep_a, hstep_b, Nat.zero_mul, Nat.zero_add]
      rw [hm]; simp
    · unfold hexL at he ⊢
      rw [List.flatMap_cons, he]
      have hv : (UInt8.ofNat ((tb SMALL x - 1) * 16 + (tb SMALL y - 1))).toNat = (tb SMALL x - 1) * 16 + (tb SMALL y - 1) := by
        rw [UInt8.toNat_ofNat']; exact Nat.mod_eq_of_lt (by omega)
      unfold hexC
      rw [hv, show ((tb SMALL x - 1) * 16 + (tb SMALL y - 1)) / 16 = tb SMALL x - 1 by omega, show ((tb SMALL x - 1) * 16 + (tb SMALL y - 1)) % 16 = tb SMALL y - 1 by omega, dg_tb x hx, dg_tb y hy]
      rfl
theorem hex_unHex (s : ByteArray) (h : (unHex s).2 = 0) : hex (unHex s).1 = s := by
  unfold unHex at h ⊢
  split at h
  · rename_i hc
    rw [if_pos hc]
    rw [Bool.and_eq_true] at hc
    obtain ⟨m, hm, he⟩ := unhex_run s.data.toList [] (by have := hc.2; simp at this; simpa using this) (fun c hcm => by have := List.all_eq_true.1 hc.1 c hcm; simpa using this)
    unfold digRun
    rw [hm]
    unfold hex
    simp only [List.nil_append]
    rw [he]
  · simp at h
theorem b64_unB64 (s : ByteArray) (h : (unB64 s).2 = 0) : b64 (unB64 s).1 = s := by
  unfold unB64 at h ⊢
  split at h
  · rename_i hc
    rw [if_pos hc]; exact hc.2
  · simp at h
theorem escape_unescape (s : ByteArray) (h : (unescape s).2 = 0) : escape (unescape s).1 = s := by
  unfold unescape at h ⊢
  split at h
  · rename_i hc
    rw [if_pos hc, hc]; rfl
  · rename_i hc
    rw [if_neg hc]
    split at h
    · simp at h
    · rename_i t ht
      split at h
      · rename_i h2; rw [if_pos h2]; exact h2
      · simp at h
theorem dec_unDec (s : ByteArray) (h : (unDec s).2 = 0) : dec (unDec s).1 = s := by
  unfold unDec at h ⊢
  split at h
  · simp at h
  · rename_i hc
    rw [if_neg hc]
    split at h
    · rename_i h2; rw [if_pos h2]; exact h2
    · simp at h

theorem one_a : unHex ⟨#[48, 48]⟩ = (⟨#[0]⟩, 0) := by kernel_rfl
theorem one_b : (unB64 ⟨#[90, 103, 61]⟩).2 = 40 := by kernel_rfl
theorem one_c : (unescape ⟨#[37, 52]⟩).2 = 44 := by kernel_rfl
theorem one_d : (unDec ⟨#[48, 49]⟩).2 = 42 := by kernel_rfl
theorem unHex_codes (s : ByteArray) : (unHex s).2 = 0 ∨ (unHex s).2 = 41 := by
  unfold unHex
  split
  · exact .inl rfl
  · exact .inr rfl
theorem unB64_codes (s : ByteArray) : (unB64 s).2 = 0 ∨ (unB64 s).2 = 40 := by
  unfold unB64
  split
  · exact .inl rfl
  · exact .inr rfl
theorem unDec_codes (s : ByteArray) : (unDec s).2 = 0 ∨ (unDec s).2 = 42 := by
  unfold unDec; split
  · exact .inr rfl
  · split
    · exact .inl rfl
    · exact .inr rfl
theorem unHex_len (s : ByteArray) : (unHex s).1.size ≤ s.size := by
  unfold unHex
  split
  · have := digRun_len 4 (tb SMALL) s.data.toList
    have h1 : s.data.toList.length = s.size := by simp
    show (digRun 4 (tb SMALL) s.data.toList).2.2.length ≤ _
    omega
  · exact Nat.zero_le _

-- numbers
theorem udStep_wrap (n : Int) (c : UInt8) : udStep n c = wrap64 (10 * n + c.toNat - 48) := by unfold udStep wrap64; omega
theorem udFold_snoc (l : List UInt8) (c : UInt8) : udFold (l ++ [c]) = udStep (udFold l) c := by unfold udFold; rw [List.foldl_append]; rfl
theorem digit_toNat (n : Nat) : (UInt8.ofNat (48 + n % 10)).toNat = 48 + n % 10 := by
  rw [UInt8.toNat_ofNat']; exact Nat.mod_eq_of_lt (by omega)
theorem udFold_decN : ∀ (k n : Nat), n < 10 ^ k → 0 < k → udFold (decN k n) = wrap64 n
  | 0, n, _, h => by omega
  | k + 1, n, hn, _ => by
    simp only [decN]
    rw [udFold_snoc, udStep_wrap, digit_toNat]
    split
    · have : udFold [] = 0 := rfl
      rw [this]
      congr 1; omega
    · have hk : 0 < k := by
        rcases k with _ | k
        · simp at hn; omega
        · omega
      rw [udFold_decN k (n / 10) (by rw [Nat.pow_succ] at hn; omega) hk]
      unfold wrap64
      omega
theorem decN_le : ∀ (k n : Nat), (decN k n).length ≤ k
  | 0, n => by simp [decN]
  | k + 1, n => by
    simp only [decN, List.length_append, List.length_cons, List.length_nil]
    have := decN_le k (n / 10)
    split
    · simp
    · omega
theorem decN_mem : ∀ (k n : Nat), ∀ c ∈ decN k n, 48 ≤ c.toNat
  | 0, n => by simp [decN]
  | k + 1, n => by
    intro c hc
    simp only [decN] at hc
    rcases List.mem_append.1 hc with hc | hc
    · split at hc
      · cases hc
      · exact decN_mem k (n / 10) c hc
    · simp only [List.mem_singleton] at hc
      rw [hc, digit_toNat]; omega
theorem dec_list (z : Int) : (dec z).data.toList = (if z < 0 then [45] else []) ++ decN 20 z.natAbs := by simp [dec]
theorem dec_size (z : Int) (hz : -9223372036854775808 ≤ z ∧ z < 9223372036854775808) : (dec z).size ≠ 0 ∧ (dec z).size ≤ 20 := by
  have h1 : (dec z).size = (dec z).data.toList.length := by simp
  rw [h1, dec_list, List.length_append]
  have h2 : (decN 20 z.natAbs).length ≤ 19 := by rw [decN_succ 18 z.natAbs (by omega)]; exact decN_le 19 _
  have h3 : (decN 20 z.natAbs).length ≠ 0 := by simp only [decN, List.length_append, List.length_cons, List.length_nil]; omega
  split
  · simp only [List.length_cons, List.length_nil]; omega
  · simp only [List.length_nil]; omega
theorem udNum_dec (z : Int) (hz : -9223372036854775808 ≤ z ∧ z < 9223372036854775808) : udNum (dec z) = z := by
  unfold udNum
  rw [dec_list]
  have hu := udFold_decN 20 z.natAbs (by omega) (by omega)
  by_cases h : z < 0
  · rw [if_pos h]
    simp only [List.singleton_append, List.head?_cons, if_true, List.tail_cons]
    rw [hu]
    unfold wrap64
    omega
  · rw [if_neg h, List.nil_append, if_neg, hu]
    · unfold wrap64; omega
    · intro h2
      have : (45 : UInt8) ∈ decN 20 z.natAbs := List.mem_of_mem_head? h2
      exact absurd (decN_mem _ _ _ this) (by decide)
theorem unDec_dec (z : Int) (hz : -9223372036854775808 ≤ z ∧ z < 9223372036854775808) : unDec (dec z) = (z, 0) := by
  have h := dec_size z hz
  unfold unDec
  rw [if_neg (by omega), udNum_dec z hz, if_pos rfl]
theorem dec_nat (n : Nat) : dec (n : Int) = mk (decN 20 n) := by
  unfold dec mk
  rw [if_neg (by omega)]; rfl
theorem dec_neg (n : Nat) (h : 0 < n) : dec (-(n : Int)) = mk ([45] ++ decN 20 n) := by
  unfold dec mk
  rw [if_pos (by omega)]; simp
theorem decN_ten (n : Nat) (h : 10 ≤ n) (hn : n < 10 ^ 20) : decN 20 n = decN 20 (n / 10) ++ decN 20 (n % 10) := by
  rw [decN_step n hn, if_pos (by omega)]
  congr 1
  rw [decN_step (n % 10) (by omega), if_neg (by omega), List.nil_append, Nat.mod_mod]
theorem dec_pos_ten (n : Nat) (h : 10 ≤ n) (hn : n < 10 ^ 20) : dec (n : Int) = dec ((n / 10 : Nat) : Int) ++ dec ((n % 10 : Nat) : Int) := by
  rw [dec_nat, dec_nat, dec_nat, mk_app, ← decN_ten n h hn]
theorem dec_neg_ten (n : Nat) (h : 10 ≤ n) (hn : n < 10 ^ 20) : dec (-(n : Int)) = dec (-((n / 10 : Nat) : Int)) ++ dec ((n % 10 : Nat) : Int) := by
  rw [dec_neg n (by omega), dec_neg (n / 10) (by omega), dec_nat, mk_app, List.append_assoc, ← decN_ten n h hn]
theorem tdiv_pos (n : Nat) : ((n : Int)).tdiv 10 = ((n / 10 : Nat) : Int) := by rfl
theorem tdiv_neg (n : Nat) : (-(n : Int)).tdiv 10 = -((n / 10 : Nat) : Int) := by rw [Int.neg_tdiv]; rfl
theorem tmod_pos (n : Nat) : ((n : Int)).tmod 10 = ((n % 10 : Nat) : Int) := by rfl
theorem tmod_neg (n : Nat) : (-(n : Int)).tmod 10 = -((n % 10 : Nat) : Int) := by rw [Int.neg_tmod]; rfl
end Go.Proofs.Ytaghjiffmondjaa
