/-
  Plain laws of the list of keys and values.
-/
import Derived.Test.YtfkdmbiejledoaaC10
set_option linter.unusedVariables false
set_option linter.unusedSimpArgs false
namespace Go.Proofs.Ytfkdmbiejledoaa
open Go.RowKit


abbrev Es := List (ByteArray × ByteArray)
structure Good (es : Es) (most : Int) : Prop where
  len : (es.length : Int) ≤ most
  ks : ∀ x ∈ es, x.1.size ≤ 100
theorem Good.ksm {es : Es} {most : Int} (h : Good es most) : ∀ x ∈ es, x.1.size ≤ maxLen := fun x hx => by have := h.ks x hx; unfold maxLen; omega
theorem rem_sub {es : Es} {k : ByteArray} {x : ByteArray × ByteArray} (h : x ∈ rem es k) : x ∈ es := (List.mem_filter.1 h).1
theorem rem_len_le (es : Es) (k : ByteArray) : (rem es k).length ≤ es.length := List.length_filter_le _ _
theorem find_iff {es : Es} {k : ByteArray} : (findV es k).isSome = true ↔ k ∈ es.map (·.1) := by
  constructor
  · intro h
    cases hv : findV es k with
    | none => rw [hv] at h; cases h
    | some v => obtain ⟨xs, ys, rfl, _⟩ := findV_some hv; simp
  · intro h
    cases hv : findV es k with
    | none => exact absurd h (findV_none hv)
    | some v => rfl
theorem rem_len {es : Es} {k : ByteArray} (hn : (es.map (·.1)).Nodup) (h : k ∈ es.map (·.1)) : (rem es k).length + 1 = es.length := by
  have := find_iff.2 h
  cases hv : findV es k with
  | none => rw [hv] at this; cases this
  | some v =>
    obtain ⟨xs, ys, rfl, _⟩ := findV_some hv
    rw [rem_mid hn]; simp; omega
theorem find_rem (es : Es) (k : ByteArray) : findV (rem es k) k = none := by
  refine findV_notin fun h => ?_
  obtain ⟨x, hx, rfl⟩ := List.mem_map.1 h
  have := (List.mem_filter.1 hx).2
  simp at this
theorem rem_keys (es : Es) (k : ByteArray) : (rem es k).map (·.1) = filt (es.map (·.1)) k := by
  unfold rem filt
  rw [List.filter_map]; rfl
theorem putE_mem {es : Es} {most : Int} {k v : ByteArray} {x : ByteArray × ByteArray} (h : x ∈ putE es most k v) : x = (k, v) ∨ x ∈ es := by
  unfold putE at h
  split at h
  · rcases List.mem_cons.1 h with h | h
    · exact .inl h
    · exact .inr (rem_sub h)
  · split at h
    · exact .inr h
    · split at h
      · exact List.mem_cons.1 h
      · rcases List.mem_cons.1 h with h | h
        · exact .inl h
        · exact .inr (List.dropLast_subset _ h)
theorem putE_len {es : Es} {most : Int} {k v : ByteArray} (hn : (es.map (·.1)).Nodup) (hm : 0 ≤ most) (h : (es.length : Int) ≤ most) : ((putE es most k v).length : Int) ≤ most ∧ ((es.length ≤ (putE es most k v).length)) ∧ (putE es most k v).length ≤ es.length + 1 ∧ (1 ≤ most → 1 ≤ (putE es most k v).length) ∧ ((findV es k).isSome = false → (es.length : Int) < most → (putE es most k v).length = es.length + 1) := by
  unfold putE
  by_cases h1 : (findV es k).isSome = true
  · have := rem_len hn (find_iff.1 h1)
    rw [if_pos h1]
    refine ⟨by simp only [List.length_cons]; omega, by simp only [List.length_cons]; omega, by simp only [List.length_cons]; omega, fun _ => by simp, fun h2 => by rw [h1] at h2; cases h2⟩
  · rw [if_neg h1]
    by_cases h2 : most = 0
    · rw [if_pos h2]; exact ⟨h, Nat.le_refl _, by omega, fun h => by omega, fun _ h => by omega⟩
    · rw [if_neg h2]
      by_cases h3 : (es.length : Int) < most
      · rw [if_pos h3]; refine ⟨by simp only [List.length_cons]; omega, by simp, by simp, fun _ => by simp, fun _ _ => by simp⟩
      · rw [if_neg h3]
        have : es.length ≠ 0 := by omega
        refine ⟨by simp only [List.length_cons, List.length_dropLast]; omega, by simp only [List.length_cons, List.length_dropLast]; omega, by simp only [List.length_cons, List.length_dropLast]; omega, fun _ => by simp, fun _ h => absurd h h3⟩
theorem Good.put {es : Es} {most : Int} (h : Good es most) (hn : (es.map (·.1)).Nodup) (hm : 0 ≤ most) {k v : ByteArray} (hk : k.size ≤ 100) : Good (putE es most k v) most :=
  ⟨(putE_len hn hm h.len).1, fun x hx => by rcases putE_mem hx with rfl | hx; exact hk; exact h.ks x hx⟩
theorem getE_mem {es : Es} {k : ByteArray} {x : ByteArray × ByteArray} (h : x ∈ getE es k) : x ∈ es := by
  unfold getE at h
  cases hv : findV es k with
  | none => rw [hv] at h; exact h
  | some v =>
    rw [hv] at h
    obtain ⟨xs, ys, e, _⟩ := findV_some hv
    rcases List.mem_cons.1 h with h | h
    · rw [h, e]; simp
    · exact rem_sub h
theorem getE_len {es : Es} {k : ByteArray} (hn : (es.map (·.1)).Nodup) : (getE es k).length = es.length := by
  unfold getE
  cases hv : findV es k with
  | none => rfl
  | some v =>
    have := rem_len hn (find_iff.1 (show (findV es k).isSome = true by rw [hv]; rfl))
    simp only [List.length_cons]; omega
theorem Good.get {es : Es} {most : Int} (h : Good es most) (hn : (es.map (·.1)).Nodup) (k : ByteArray) : Good (getE es k) most :=
  ⟨by rw [getE_len hn]; exact h.len, fun x hx => h.ks x (getE_mem hx)⟩
theorem Good.rem {es : Es} {most : Int} (h : Good es most) (k : ByteArray) : Good (rem es k) most :=
  ⟨by have := rem_len_le es k; have := h.len; omega, fun x hx => h.ks x (rem_sub hx)⟩
theorem Good.nil {most : Int} (h : 0 ≤ most) : Good [] most := ⟨by simpa using h, fun x hx => by cases hx⟩
/-- blocks from B on: what a call on an object of such blocks leaves -/
theorem stepB {B : Nat} {w w1 w2 : World} {fp fp' : Nat → Prop} (hb : Below B w w1) (hB : B ≤ w1.heap.size) (hf : ∀ b, fp b → B ≤ b) (ht : Turn fp w1 w2) (hf' : ∀ b, fp' b → fp b ∨ w1.heap.size ≤ b) : Below B w w2 ∧ (∀ b, fp' b → B ≤ b) ∧ B ≤ w2.heap.size :=
  ⟨hb.trans (ht.below hf hB), fun b h => (hf' b h).elim (hf b) (fun h => by omega), by have := ht.size; omega⟩
theorem SlIn.ints {w : World} {v : Value} {xs : List Int} {B : Nat → Prop} (h : SlIn w v (xs.map (Value.int .i64)) B) : ∃ A cap, v = .slice A xs.length cap ∧ xs.length ≤ cap ∧ (0 < xs.length → ∃ b o, A = some ⟨b, o, none⟩ ∧ b < w.heap.size ∧ ∀ i (h : i < xs.length), w.cell? ⟨b, o + i, none⟩ = some (.int .i64 xs[i])) := by
  obtain ⟨A, cap, rfl, hc, h⟩ := h
  have hl : (xs.map (Value.int .i64)).length = xs.length := List.length_map _
  rw [hl]
  refine ⟨A, cap, rfl, by omega, fun hp => ?_⟩
  obtain ⟨b, o, h1, h2, _, h4⟩ := h (by omega)
  exact ⟨b, o, h1, h2, fun i hi => by rw [h4 i (by simpa using hi)]; simp⟩
def InI64 (z : Int) : Prop := -9223372036854775808 ≤ z ∧ z ≤ 9223372036854775807

theorem hasB_iff {xs : List ByteArray} {k : ByteArray} : hasB xs k = true ↔ k ∈ xs := by
  unfold hasB
  rw [List.any_eq_true]
  constructor
  · rintro ⟨x, hx, h⟩
    simp at h; subst h; exact hx
  · intro h; exact ⟨k, h, by simp⟩
theorem has_find (es : Es) (k : ByteArray) : hasB (es.map (·.1)) k = (findV es k).isSome := by
  rw [Bool.eq_iff_iff, hasB_iff, find_iff]
theorem filt_notin {xs : List ByteArray} {k : ByteArray} (h : k ∉ xs) : filt xs k = xs := by
  unfold filt
  rw [List.filter_eq_self]
  intro x hx
  simp only [Bool.not_eq_true', decide_eq_false_iff_not]
  rintro rfl
  exact h hx
theorem put_keys {es : Es} {n : Nat} {k v : ByteArray} (hn : (es.map (·.1)).Nodup) (h : es.length ≤ n) : (putE es n k v).map (·.1) = (k :: filt (es.map (·.1)) k).take n := by
  have hl : (es.map (·.1)).length = es.length := List.length_map _
  unfold putE
  by_cases h1 : (findV es k).isSome = true
  · have h2 := rem_len hn (find_iff.1 h1)
    have h3 : (filt (es.map (·.1)) k).length = (rem es k).length := by rw [← rem_keys, List.length_map]
    rw [if_pos h1, List.map_cons, rem_keys, List.take_of_length_le]
    simp only [List.length_cons]; omega
  · have hnot : k ∉ es.map (·.1) := fun h => h1 (find_iff.2 h)
    rw [if_neg h1, filt_notin hnot]
    by_cases h2 : (n : Int) = 0
    · have : n = 0 := by omega
      subst this
      rw [if_pos h2, List.eq_nil_of_length_eq_zero (show es.length = 0 by omega)]; rfl
    · rw [if_neg h2]
      by_cases h3 : (es.length : Int) < n
      · rw [if_pos h3, List.take_of_length_le (by simp only [List.length_cons]; omega)]; rfl
      · rw [if_neg h3]
        obtain ⟨m, rfl⟩ : ∃ m, n = m + 1 := ⟨n - 1, by omega⟩
        rw [List.take_succ_cons, List.map_cons, List.dropLast_eq_take, List.map_take]
        congr 2
        omega
theorem get_keys {es : Es} {k : ByteArray} (h : (findV es k).isSome = true) : (getE es k).map (·.1) = k :: filt (es.map (·.1)) k := by
  unfold getE
  cases hv : findV es k with
  | none => rw [hv] at h; cases h
  | some v => rw [List.map_cons, rem_keys]
theorem get_same {es : Es} {k : ByteArray} (h : (findV es k).isSome = false) : getE es k = es := by
  unfold getE
  cases hv : findV es k with
  | none => rfl
  | some v => rw [hv] at h; cases h
theorem find_put {es : Es} {n : Nat} {k v : ByteArray} (h : es.length ≤ n) : (0 < n → findV (putE es n k v) k = some v) ∧ (n = 0 → findV (putE es n k v) k = none) := by
  have hhead : ∀ l : Es, findV ((k, v) :: l) k = some v := fun l => by simp [findV]
  refine ⟨fun hn => ?_, fun hn => ?_⟩
  · unfold putE
    split
    · exact hhead _
    · split
      · omega
      · split
        · exact hhead _
        · exact hhead _
  · subst hn
    obtain rfl : es = [] := List.eq_nil_of_length_eq_zero (by omega)
    rfl
theorem put_last {es : Es} {n : Nat} {k : ByteArray} (hnot : (findV es k).isSome = false) (h : es.length = n) (hn : 0 < n) (hi : n - 1 < (es.map (·.1)).length) : putOut es n k = ((es.map (·.1))[n - 1], true) := by
  unfold putOut
  rw [if_neg (by rw [hnot]; simp), if_neg (by omega), if_neg (by omega)]
  have hl : (es.map (·.1)).length = es.length := List.length_map _
  have : es.getLast? = some (es[n - 1]'(by omega)) := by
    rw [List.getLast?_eq_getElem?, List.getElem?_eq_getElem (by omega)]
    congr 1
    simp only [h]
  rw [this]
  simp
end Go.Proofs.Ytfkdmbiejledoaa
