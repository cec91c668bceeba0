/-
  Plain laws: words escaped and read back; lists joined and parted.
-/
import Derived.Test.YtaghjiffmondjaaB15
set_option linter.unusedVariables false
set_option linter.unusedSimpArgs false
namespace Go.Proofs.Ytaghjiffmondjaa
open Go.RowKit

theorem all_u8 {p : UInt8 → Bool} (h : ((List.range 256).all fun n => p (UInt8.ofNat n)) = true) (c : UInt8) : p c = true := by
  have := List.all_eq_true.1 h c.toNat (List.mem_range.2 c.toNat_lt)
  simpa using this

def cutPlain (c : UInt8) : Bool :=
  match escOne c with
  | [x] => x == c && x != 37 && x != 32 && decide (32 < x.toNat) && decide (x.toNat < 127)
  | [x, y, z] => x == 37 && tb BIG y != 0 && tb BIG z != 0 && UInt8.ofNat ((tb BIG y - 1) * 16 + (tb BIG z - 1)) == c && y != 32 && z != 32 && decide (32 < y.toNat) && decide (y.toNat < 127) && decide (32 < z.toNat) && decide (z.toNat < 127)
  | _ => false
theorem cut_plain (c : UInt8) : cutPlain c = true := all_u8 (p := cutPlain) (by kernel_rfl) c
theorem escOne_cases (c : UInt8) : (escOne c = [c] ∧ c ≠ 37 ∧ c ≠ 32 ∧ 32 < c.toNat ∧ c.toNat < 127) ∨
    (∃ y z, escOne c = [37, y, z] ∧ tb BIG y ≠ 0 ∧ tb BIG z ≠ 0 ∧ UInt8.ofNat ((tb BIG y - 1) * 16 + (tb BIG z - 1)) = c ∧ y ≠ 32 ∧ z ≠ 32 ∧ (32 < y.toNat ∧ y.toNat < 127) ∧ (32 < z.toNat ∧ z.toNat < 127)) := by
  have h := cut_plain c
  unfold cutPlain at h
  split at h
  · rename_i x hx
    simp only [Bool.and_eq_true, beq_iff_eq, bne_iff_ne, decide_eq_true_eq] at h
    obtain ⟨⟨⟨⟨h1, h2⟩, h3⟩, h4⟩, h5⟩ := h
    exact .inl ⟨by rw [hx, h1], h1 ▸ h2, h1 ▸ h3, h1 ▸ h4, h1 ▸ h5⟩
  · rename_i x y z hx
    simp only [Bool.and_eq_true, beq_iff_eq, bne_iff_ne, decide_eq_true_eq] at h
    obtain ⟨⟨⟨⟨⟨⟨⟨⟨⟨h1, h2⟩, h3⟩, h4⟩, h5⟩, h6⟩, h7⟩, h8⟩, h9⟩, h10⟩ := h
    exact .inr ⟨y, z, by rw [hx, h1], h2, h3, h4, h5, h6, ⟨h7, h8⟩, ⟨h9, h10⟩⟩
  · cases h

theorem escL_byte (l : List UInt8) : ∀ x ∈ escL l, 32 < x.toNat ∧ x.toNat < 127 := by
  intro x hx
  unfold escL at hx
  obtain ⟨c, _, hc⟩ := List.mem_flatMap.1 hx
  rcases escOne_cases c with ⟨h, _, _, h1, h2⟩ | ⟨y, z, h, _, _, _, _, _, h1, h2⟩
  · rw [h] at hc; simp at hc; subst hc; exact ⟨h1, h2⟩
  · rw [h] at hc; simp at hc
    rcases hc with rfl | rfl | rfl
    · exact ⟨by decide, by decide⟩
    · exact h1
    · exact h2
theorem escape_byte (s : ByteArray) : ∀ x ∈ (escape s).data.toList, 32 < x.toNat ∧ x.toNat < 127 := by
  unfold escape
  split
  · intro x hx; simp at hx; subst hx; exact ⟨by decide, by decide⟩
  · simpa using escL_byte s.data.toList
theorem unescL_escL (l : List UInt8) : unescL (escL l) = some l := by
  unfold escL
  induction l with
  | nil => rfl
  | cons c l ih =>
    rw [List.flatMap_cons]
    rcases escOne_cases c with ⟨h, h1, _⟩ | ⟨y, z, h, h1, h2, h3, _⟩
    · rw [h, List.cons_append, List.nil_append, unescL_plain _ _ h1, ih]; rfl
    · rw [h]
      simp only [List.cons_append, List.nil_append, unescL, if_true]
      rw [if_neg (by simp [h1, h2]), ih, h3]; rfl
theorem escL_ne {c : UInt8} {l : List UInt8} : escL (c :: l) ≠ [] := by
  unfold escL
  rw [List.flatMap_cons]
  rcases escOne_cases c with ⟨h, _⟩ | ⟨y, z, h, _⟩ <;> rw [h] <;> simp
theorem list_of_size {s : ByteArray} (h : s.size = 0) : s = ⟨#[]⟩ := bytes_ext (by
  have := toList_of_size h
  rw [toList_eq] at this
  simpa using this)
theorem mk_list (l : List UInt8) : (mk l).data.toList = l := by simp [mk]
theorem mk_size (l : List UInt8) : (mk l).size = l.length := by simp [mk, ByteArray.size]
theorem escape_size (s : ByteArray) : (escape s).size ≠ 0 := by
  unfold escape
  split
  · decide
  · rename_i h
    intro h2
    have h3 : (escL s.data.toList).length = 0 := h2
    cases hl : s.data.toList with
    | nil => exact h (by have : s.data.toList.length = 0 := by rw [hl]; rfl
                         simpa using this)
    | cons c l => rw [hl] at h3; exact escL_ne (List.length_eq_zero_iff.1 h3)
theorem escL_not37 (l : List UInt8) : escL l ≠ [37] := by
  intro h
  have := unescL_escL l
  rw [h] at this
  simp [unescL] at this
/-- what is written as a word is read back -/
theorem unescape_escape (s : ByteArray) : unescape (escape s) = (s, 0) := by
  by_cases h0 : s.size = 0
  · obtain rfl := list_of_size h0
    rfl
  · have he : escape s = ⟨(escL s.data.toList).toArray⟩ := by unfold escape; rw [if_neg h0]
    unfold unescape
    rw [if_neg (by
      rw [he]; intro h
      have : (escL s.data.toList).toArray = #[37] := congrArg ByteArray.data h
      exact escL_not37 s.data.toList (by have := congrArg Array.toList this; simpa using this))]
    rw [show (escape s).data.toList = escL s.data.toList by rw [he]]
    rw [unescL_escL]
    simp only
    rw [mk_data, if_pos rfl]

theorem partL_plain (c : UInt8) (p : List UInt8) (h : ∀ x ∈ p, x ≠ c) : partL c p = [p] := by
  induction p with
  | nil => rfl
  | cons x p ih =>
    unfold partL
    rw [if_neg (h x (by simp)), ih (fun y hy => h y (by simp [hy]))]
theorem partL_snoc (c : UInt8) (l p : List UInt8) (h : ∀ x ∈ p, x ≠ c) : partL c (l ++ c :: p) = partL c l ++ [p] := by
  induction l with
  | nil => simp only [List.nil_append, partL, if_true, partL_plain c p h]; rfl
  | cons x l ih =>
    simp only [List.cons_append, partL]
    split
    · rw [ih]; rfl
    · rw [ih]
      have hn := partL_ne c l
      cases hp : partL c l with
      | nil => exact absurd hp hn
      | cons q qs => rfl

/-- the first i words as they stand in the line -/
def lineN (ws : List ByteArray) : Nat → List UInt8
  | 0 => []
  | i + 1 => (if 0 < i then lineN ws i ++ [32] else lineN ws i) ++ (escape (ws.getD i ⟨#[]⟩)).data.toList
theorem lineN_part (ws : List ByteArray) (i : Nat) (hi : i + 1 ≤ ws.length) : partL 32 (lineN ws (i + 1)) = (ws.take (i + 1)).map fun w => (escape w).data.toList := by
  induction i with
  | zero =>
    have hg : ws.getD 0 ⟨#[]⟩ = ws[0] := by simp [List.getD, show 0 < ws.length by omega]
    simp only [lineN, Nat.lt_irrefl, if_false, List.nil_append]
    rw [partL_plain 32 _ (fun x hx h => by have := (escape_byte _ x hx).1; subst h; exact absurd this (by decide)), hg]
    rw [List.take_succ_eq_append_getElem (by omega)]; simp
  | succ i ih =>
    have hg : ws.getD (i + 1) ⟨#[]⟩ = ws[i + 1] := by simp [List.getD, show i + 1 < ws.length by omega]
    rw [lineN, if_pos (by omega), hg]
    rw [List.append_assoc, List.singleton_append, partL_snoc 32 _ _ (fun x hx h => by have := (escape_byte _ x hx).1; subst h; exact absurd this (by decide)), ih (by omega)]
    rw [List.take_succ_eq_append_getElem (i := i + 1) (by omega), List.map_append]; rfl
theorem wordsGo_esc (ws : List ByteArray) : wordsGo ((ws.map fun w => (escape w).data.toList).map mk) = some ws := by
  induction ws with
  | nil => rfl
  | cons w ws ih =>
    simp only [List.map_cons, wordsGo, mk_data, unescape_escape]
    rw [if_pos trivial, ih]; rfl
theorem unescape_nil : (unescape (mk [])).2 = 44 := by rfl
theorem wordsGo_bad (l : List ByteArray) : wordsGo (l ++ [mk []]) = none := by
  induction l with
  | nil => simp only [List.nil_append, wordsGo, unescape_nil]; rfl
  | cons w ws ih =>
    simp only [List.cons_append, wordsGo]
    split
    · rw [ih]; rfl
    · rfl
theorem lineN_pos (ws : List ByteArray) (i : Nat) (hi : 0 < i) : (lineN ws i).length ≠ 0 := by
  cases i with
  | zero => omega
  | succ i =>
    simp only [lineN, List.length_append]
    have := escape_size (ws.getD i ⟨#[]⟩)
    have h2 : (escape (ws.getD i ⟨#[]⟩)).data.toList.length = (escape (ws.getD i ⟨#[]⟩)).size := by simp
    omega
/-- the line's words are the words -/
theorem wordsOf_line (ws : List ByteArray) : wordsOf (mk (lineN ws ws.length)) = (ws, 0) := by
  by_cases h : ws.length = 0
  · obtain rfl := List.length_eq_zero_iff.1 h
    rfl
  · obtain ⟨n, hn⟩ : ∃ n, ws.length = n + 1 := ⟨ws.length - 1, by omega⟩
    unfold wordsOf
    rw [if_neg (by rw [mk_size]; exact lineN_pos ws _ (by omega)), mk_list, hn, lineN_part ws n (by omega), ← hn, List.take_length, wordsGo_esc]
theorem wordsOf_behind (ws : List ByteArray) : (wordsOf (mk (lineN ws ws.length ++ [32]))).2 = 44 := by
  unfold wordsOf
  rw [if_neg (by rw [mk_size]; simp), mk_list, partL_snoc 32 _ [] (by simp), List.map_append]
  simp only [List.map_cons, List.map_nil]
  rw [wordsGo_bad]
theorem wordsOf_ahead (ws : List ByteArray) : (wordsOf (mk ([32] ++ lineN ws ws.length))).2 = 44 := by
  unfold wordsOf
  rw [if_neg (by rw [mk_size]; simp), mk_list]
  simp only [List.cons_append, List.nil_append, partL, if_true, List.map_cons, wordsGo, unescape_nil]
  rfl

theorem escOne_len_le (c : UInt8) : (escOne c).length ≤ 3 := escOne_len c
theorem escape_len (s : ByteArray) : (escape s).size ≤ 3 * s.size + 1 := by
  unfold escape
  split
  · show 1 ≤ _; omega
  · show (escL s.data.toList).length ≤ _
    have := flatMap_len escOne_len s.data.toList
    have h1 : s.data.toList.length = s.size := by simp
    unfold escL
    omega
/-- bytes of all the words, and three for each -/
def wgt (ws : List ByteArray) : Nat := (ws.map fun w => 3 * w.size + 2).sum
theorem wgt_take (ws : List ByteArray) (i : Nat) (hi : i < ws.length) : wgt (ws.take (i + 1)) = wgt (ws.take i) + (3 * ws[i].size + 2) := by
  unfold wgt
  rw [List.take_succ_eq_append_getElem hi, List.map_append, List.sum_append]; simp only [List.map_cons, List.map_nil, List.sum_cons, List.sum_nil, Nat.add_zero]
theorem wgt_le (ws : List ByteArray) (i : Nat) : wgt (ws.take i) ≤ wgt ws := by
  unfold wgt
  conv => rhs; rw [← List.take_append_drop i ws]
  rw [List.map_append, List.sum_append]; omega
theorem lineN_len (ws : List ByteArray) (i : Nat) (hi : i ≤ ws.length) : (lineN ws i).length ≤ wgt (ws.take i) := by
  induction i with
  | zero => simp [lineN]
  | succ i ih =>
    have hg : ws.getD i ⟨#[]⟩ = ws[i] := by simp [List.getD, show i < ws.length by omega]
    rw [wgt_take ws i (by omega), lineN, hg, List.length_append]
    have := escape_len ws[i]
    have h2 : (escape ws[i]).data.toList.length = (escape ws[i]).size := by simp
    have := ih (by omega)
    split
    · rw [List.length_append]; simp only [List.length_cons, List.length_nil]; omega
    · omega
end Go.Proofs.Ytaghjiffmondjaa
