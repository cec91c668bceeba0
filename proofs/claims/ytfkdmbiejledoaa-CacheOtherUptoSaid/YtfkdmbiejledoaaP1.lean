/-
  The smaller cache lies in the greater one: plain laws.
-/
import Derived.Test.YtfkdmbiejledoaaP0
set_option linter.unusedVariables false
set_option linter.unusedSimpArgs false
namespace Go.Proofs.Ytfkdmbiejledoaa
open Go.RowKit


def tellE (es : Es) (n : Int) (kd : Int) (k v : ByteArray) : Es := if kd = 1 then getE es k else if kd = 3 then putE es n k v else if kd = 4 then rem es k else if kd = 5 then [] else es
def tellH (es : Es) (kd : Int) (k : ByteArray) : Int := if kd = 1 then one (findV es k).isSome else 0
def tellM (es : Es) (kd : Int) (k : ByteArray) : Int := if kd = 1 then one (!(findV es k).isSome) else 0
def tellG (es : Es) (n : Int) (kd : Int) (k : ByteArray) : Int := if kd = 3 then one (putOut es n k).2 else 0
theorem tell_bounds (es : Es) (n kd : Int) (k : ByteArray) : 0 ≤ tellH es kd k ∧ tellH es kd k ≤ 1 ∧ 0 ≤ tellM es kd k ∧ tellM es kd k ≤ 1 ∧ 0 ≤ tellG es n kd k ∧ tellG es n kd k ≤ 1 := by
  unfold tellH tellM tellG
  have h1 := one_le (findV es k).isSome
  have h2 := one_le (!(findV es k).isSome)
  have h3 := one_le (putOut es n k).2
  refine ⟨?_, ?_, ?_, ?_, ?_, ?_⟩ <;> split <;> omega
theorem Good.tell {es : Es} {n : Int} (h : Good es n) (hn : (es.map (·.1)).Nodup) (h0 : 0 ≤ n) {kd : Int} {k v : ByteArray} (hk : k.size ≤ 100) : Good (tellE es n kd k v) n := by
  unfold tellE
  split
  · exact h.get hn k
  · split
    · exact h.put hn h0 hk
    · split
      · exact h.rem k
      · split
        · exact Good.nil h0
        · exact h
/-- the smaller cache's list lies in the greater one's -/
structure Nest (a b : Es) (n m : Int) : Prop where
  sub : a.Sublist b
  gap : (b.length : Int) - a.length ≤ m - n
theorem sub_find {a b : Es} (h : a.Sublist b) (hb : (b.map (·.1)).Nodup) {k v : ByteArray} (hf : findV a k = some v) : findV b k = some v := by
  obtain ⟨xs, ys, rfl, _⟩ := findV_some hf
  have hm : (k, v) ∈ b := h.subset (by simp)
  obtain ⟨us, vs, rfl⟩ := List.append_of_mem hm
  have hn : k ∉ us.map (·.1) := by
    rw [List.map_append, List.map_cons] at hb
    have h2 := (List.perm_middle.nodup_iff).1 hb
    rw [List.nodup_cons, List.mem_append, not_or] at h2
    exact h2.1.1
  unfold findV
  rw [List.find?_append]
  have : us.find? (fun x => decide (x.1 = k)) = none := by
    rw [List.find?_eq_none]
    intro x hx h2
    simp at h2
    exact hn (List.mem_map.2 ⟨x, hx, h2⟩)
  rw [this]
  simp
theorem sub_some {a b : Es} (h : a.Sublist b) {k : ByteArray} (hf : (findV a k).isSome = true) : (findV b k).isSome = true :=
  find_iff.2 ((h.map _).subset (find_iff.1 hf))
theorem rem_subl {a b : Es} (h : a.Sublist b) (k : ByteArray) : (rem a k).Sublist (rem b k) := h.filter _
theorem sub_rem {a b : Es} (h : a.Sublist b) {k : ByteArray} (hf : (findV a k).isSome = false) : a.Sublist (rem b k) := by
  have := rem_subl h k
  rwa [rem_notin (fun hm => by rw [find_iff.2 hm] at hf; cases hf)] at this
theorem dropLast_sub {α : Type} (l : List α) : l.dropLast.Sublist l := List.dropLast_sublist l
theorem dropLast_subl {α : Type} {a b : List α} (h : a.Sublist b) : a.dropLast.Sublist b.dropLast := by
  induction h with
  | slnil => exact List.Sublist.refl _
  | @cons l1 l2 x h ih =>
    cases l2 with
    | nil => rw [List.sublist_nil.1 h]; exact List.nil_sublist _
    | cons y l2 => rw [List.dropLast_cons_of_ne_nil (by simp)]; exact ih.trans (List.sublist_cons_self _ _)
  | @cons_cons l1 l2 x h ih =>
    cases l1 with
    | nil => exact List.nil_sublist _
    | cons z l1 =>
      cases l2 with
      | nil => cases h
      | cons y l2 =>
        exact ih.cons_cons x
theorem rem_len_some {es : Es} {k : ByteArray} (hn : (es.map (·.1)).Nodup) (h : (findV es k).isSome = true) : (rem es k).length + 1 = es.length := rem_len hn (find_iff.1 h)
theorem rem_len_none {es : Es} {k : ByteArray} (h : (findV es k).isSome = false) : rem es k = es := rem_notin (fun hm => by rw [find_iff.2 hm] at h; cases h)
theorem getE_some {es : Es} {k : ByteArray} {v : ByteArray} (h : findV es k = some v) : getE es k = (k, v) :: rem es k := by unfold getE; rw [h]
theorem Nest.get {a b : Es} {n m : Int} (h : Nest a b n m) (ha : (a.map (·.1)).Nodup) (hb : (b.map (·.1)).Nodup) (k : ByteArray) : Nest (getE a k) (getE b k) n m := by
  refine ⟨?_, by rw [getE_len ha, getE_len hb]; exact h.gap⟩
  cases h1 : findV a k with
  | some v =>
    have h2 := sub_find h.sub hb h1
    rw [getE_some h1, getE_some h2]
    exact (rem_subl h.sub k).cons_cons _
  | none =>
    rw [get_same (es := a) (by rw [h1]; rfl)]
    cases h2 : findV b k with
    | none => rw [get_same (es := b) (by rw [h2]; rfl)]; exact h.sub
    | some v => rw [getE_some h2]; exact (sub_rem h.sub (by rw [h1]; rfl)).cons _
theorem Nest.rem {a b : Es} {n m : Int} (h : Nest a b n m) (ha : (a.map (·.1)).Nodup) (hb : (b.map (·.1)).Nodup) (k : ByteArray) : Nest (rem a k) (rem b k) n m := by
  refine ⟨rem_subl h.sub k, ?_⟩
  have hg := h.gap
  cases h1 : (findV a k).isSome
  · rw [rem_len_none h1]
    have := rem_len_le b k
    omega
  · have h2 := rem_len_some ha h1
    have h3 := rem_len_some hb (sub_some h.sub h1)
    omega
theorem putE_some {es : Es} {n : Int} {k v : ByteArray} (h : (findV es k).isSome = true) : putE es n k v = (k, v) :: Ytfkdmbiejledoaa.rem es k := by unfold putE; rw [if_pos h]
theorem putE_zero {es : Es} {n : Int} {k v : ByteArray} (h : (findV es k).isSome = false) (h0 : n = 0) : putE es n k v = es := by unfold putE; rw [if_neg (by rw [h]; simp), if_pos h0]
theorem putE_room {es : Es} {n : Int} {k v : ByteArray} (h : (findV es k).isSome = false) (h0 : n ≠ 0) (h1 : (es.length : Int) < n) : putE es n k v = (k, v) :: es := by unfold putE; rw [if_neg (by rw [h]; simp), if_neg h0, if_pos h1]
theorem putE_full {es : Es} {n : Int} {k v : ByteArray} (h : (findV es k).isSome = false) (h0 : n ≠ 0) (h1 : ¬ (es.length : Int) < n) : putE es n k v = (k, v) :: es.dropLast := by unfold putE; rw [if_neg (by rw [h]; simp), if_neg h0, if_neg h1]
theorem Nest.put {a b : Es} {n m : Int} (h : Nest a b n m) (ga : Good a n) (gb : Good b m) (ha : (a.map (·.1)).Nodup) (hb : (b.map (·.1)).Nodup) (h0 : 0 ≤ n) (hnm : n ≤ m) (k v : ByteArray) :
    Nest (putE a n k v) (putE b m k v) n m := by
  have hg := h.gap
  have la := ga.len
  have lb := gb.len
  cases h1 : (findV a k).isSome
  · by_cases hn : n = 0
    · have hae : a = [] := List.eq_nil_of_length_eq_zero (by omega)
      rw [putE_zero h1 hn, hae]
      have := (putE_len (es := b) (most := m) (k := k) (v := v) hb (by omega) lb).1
      exact ⟨List.nil_sublist _, by simp only [List.length_nil]; omega⟩
    · cases h2 : (findV b k).isSome
      · by_cases hr : (a.length : Int) < n
        · have hrb : (b.length : Int) < m := by omega
          rw [putE_room h1 hn hr, putE_room h2 (by omega) hrb]
          exact ⟨h.sub.cons_cons _, by simp only [List.length_cons]; omega⟩
        · rw [putE_full h1 hn hr]
          by_cases hrb : (b.length : Int) < m
          · rw [putE_room h2 (by omega) hrb]
            exact ⟨((dropLast_sub a).trans h.sub).cons_cons _, by simp only [List.length_cons, List.length_dropLast]; omega⟩
          · rw [putE_full h2 (by omega) hrb]
            exact ⟨(dropLast_subl h.sub).cons_cons _, by simp only [List.length_cons, List.length_dropLast]; omega⟩
      · have h3 := rem_len_some hb h2
        rw [putE_some h2]
        by_cases hr : (a.length : Int) < n
        · rw [putE_room h1 hn hr]
          exact ⟨(sub_rem h.sub h1).cons_cons _, by simp only [List.length_cons]; omega⟩
        · rw [putE_full h1 hn hr]
          exact ⟨((dropLast_sub a).trans (sub_rem h.sub h1)).cons_cons _, by simp only [List.length_cons, List.length_dropLast]; omega⟩
  · have h2 := sub_some h.sub h1
    have h3 := rem_len_some ha h1
    have h4 := rem_len_some hb h2
    rw [putE_some h1, putE_some h2]
    exact ⟨(rem_subl h.sub k).cons_cons _, by simp only [List.length_cons]; omega⟩
theorem Nest.tell {a b : Es} {n m : Int} (h : Nest a b n m) (ga : Good a n) (gb : Good b m) (ha : (a.map (·.1)).Nodup) (hb : (b.map (·.1)).Nodup) (h0 : 0 ≤ n) (hnm : n ≤ m) (kd : Int) (k v : ByteArray) :
    Nest (tellE a n kd k v) (tellE b m kd k v) n m := by
  unfold tellE
  split
  · exact h.get ha hb k
  · split
    · exact h.put ga gb ha hb h0 hnm k v
    · split
      · exact h.rem ha hb k
      · split
        · exact ⟨List.Sublist.refl _, by simp only [List.length_nil]; omega⟩
        · exact h
theorem one_mono {x y : Bool} (h : x = true → y = true) : one x ≤ one y := by cases x <;> cases y <;> simp_all [one]
theorem Nest.counts {a b : Es} {n m : Int} (h : Nest a b n m) (ga : Good a n) (gb : Good b m) (h0 : 0 ≤ n) (hnm : n ≤ m) (kd : Int) (k : ByteArray) :
    tellH a kd k ≤ tellH b kd k ∧ tellM b kd k ≤ tellM a kd k ∧ tellG b m kd k ≤ tellG a n kd k := by
  have hs : (findV a k).isSome = true → (findV b k).isSome = true := sub_some h.sub
  have hg := h.gap
  have la := ga.len
  have lb := gb.len
  refine ⟨?_, ?_, ?_⟩
  · unfold tellH; split
    · exact one_mono hs
    · omega
  · unfold tellM; split
    · refine one_mono fun hn => ?_
      cases h1 : (findV a k).isSome
      · rfl
      · rw [hs h1] at hn; cases hn
    · omega
  · unfold tellG; split
    · refine one_mono fun hn => ?_
      cases h2 : (findV b k).isSome
      · have h1 : (findV a k).isSome = false := by
          cases h1 : (findV a k).isSome
          · rfl
          · rw [hs h1] at h2; cases h2
        unfold putOut at hn ⊢
        rw [if_neg (by rw [h2]; simp)] at hn
        rw [if_neg (by rw [h1]; simp)]
        by_cases hn0 : n = 0
        · rw [if_pos hn0]
        · rw [if_neg hn0]
          by_cases hr : (a.length : Int) < n
          · rw [if_neg (by omega), if_pos (by omega)] at hn; cases hn
          · rw [if_neg hr]
      · unfold putOut at hn; rw [if_pos h2] at hn; cases hn
    · omega
end Go.Proofs.Ytfkdmbiejledoaa
