/-
  the document's own Lines.
-/
import Derived.Test.YtaghjiffmondjaaP1
set_option linter.unusedVariables false
set_option linter.unusedSimpArgs false
namespace Go.Proofs.Ytaghjiffmondjaa
open Go.RowKit

theorem partL_last (c : UInt8) : ∀ (l : List UInt8) (xs : List (List UInt8)), l ≠ [] → partL c l = xs ++ [[]] → l.getLast? = some c
  | [], _, h, _ => absurd rfl h
  | x :: l, xs, _, h => by
    by_cases hx : x = c
    · subst hx
      simp only [partL, if_true] at h
      by_cases hl : l = []
      · subst hl; rfl
      · cases xs with
        | nil =>
          simp only [List.nil_append, List.cons.injEq, true_and] at h
          exact absurd h (partL_ne x l)
        | cons y ys =>
          simp only [List.cons_append, List.cons.injEq] at h
          have := partL_last x l ys hl h.2
          rw [List.getLast?_cons, this]; rfl
    · simp only [partL, if_neg hx] at h
      cases hp : partL c l with
      | nil => exact absurd hp (partL_ne c l)
      | cons q qs =>
        rw [hp] at h
        simp only at h
        cases xs with
        | nil => simp at h
        | cons y ys =>
          simp only [List.cons_append, List.cons.injEq] at h
          by_cases hl : l = []
          · subst hl
            have h1 : q :: qs = [[]] := hp.symm
            simp only [List.cons.injEq] at h1
            rw [h1.2] at h
            have := congrArg List.length h.2
            simp at this
          · have := partL_last c l (q :: ys) hl (by rw [hp, h.2]; rfl)
            rw [List.getLast?_cons, this]; rfl
/-- what the parts say of the lines -/
theorem lines_parts (s : ByteArray) (f : Nat) (hf : f ≤ s.size) (zs : List ByteArray) (h : (partL 10 s.data.toList).map mk = zs ++ [s.extract f s.size]) :
    (f < s.size → linesOf s = ([], 43)) ∧ (¬ f < s.size → linesOf s = (zs, 0)) := by
  have hl : s.data.toList.length = s.size := by simp
  have hes : (s.extract f s.size).size = s.size - f := by simp
  by_cases h0 : s.size = 0
  · have e : s.data.toList = [] := List.eq_nil_of_length_eq_zero (by omega)
    refine ⟨fun h => by omega, fun _ => ?_⟩
    unfold linesOf
    rw [if_pos h0]
    rw [e] at h
    simp only [partL, List.map_cons, List.map_nil] at h
    cases zs with
    | nil => rfl
    | cons z zs => have := congrArg List.length h; simp at this
  · unfold linesOf
    rw [if_neg h0]
    by_cases h10 : s.data.toList.getLast? = some 10
    · rw [if_pos h10]
      have hd := part_drop 10 _ h10
      rw [hd, List.map_append] at h
      simp only [List.map_cons, List.map_nil] at h
      have h1 := List.append_inj' h rfl
      have h2 : mk [] = s.extract f s.size := by simpa using h1.2
      have h3 : s.size - f = 0 := by rw [← hes, ← h2]; rfl
      exact ⟨fun h => by omega, fun _ => by rw [h1.1]⟩
    · rw [if_neg h10]
      refine ⟨fun _ => rfl, fun hfs => ?_⟩
      exfalso
      apply h10
      have hps := List.dropLast_concat_getLast (partL_ne 10 s.data.toList)
      refine partL_last 10 s.data.toList (partL 10 s.data.toList).dropLast (fun e => by rw [e] at hl; simp at hl; omega) ?_
      have h2 : (partL 10 s.data.toList).getLast (partL_ne 10 s.data.toList) = [] := by
        rw [← hps, List.map_append] at h
        have h1 := (List.append_inj' h rfl).2
        have h4 : mk ((partL 10 s.data.toList).getLast (partL_ne 10 s.data.toList)) = s.extract f s.size := by simpa using h1
        have h5 := congrArg ByteArray.size h4
        rw [mk_size, hes] at h5
        exact List.length_eq_zero_iff.1 (by omega)
      rw [h2] at hps
      exact hps.symm

set_option maxRecDepth 100000 in
theorem rLines_calls (s : ByteArray) (hs : s.size ≤ 8000000000000) (w : World) :
    Calls Try.prog 14 #[.string s] w fun e w' => ∃ v, e = .returned (.tuple #[v, .int .i64 (linesOf s).2]) ∧ StrsOwn w.heap.size w' v (linesOf s).1 ∧ Below w.heap.size w w' := by
  obtain ⟨i0, hi, hz0, hz1, hz2⟩ := info_parts info9
  have HS := Lib.hid hs
  replace hs : s.size ≤ 2 ^ 63 - 1 := by omega
  go_enter Try.func14, Try.ntmps14
  go_wp2
  go_loopw [4, 5, 6] (fun ov fv iv wr => ∃ (f i : Nat) (zs : List ByteArray), f ≤ i ∧ i ≤ s.size ∧ fv = .int .i64 f ∧ iv = .int .i64 i ∧ Hid (zs.length ≤ i ∧ ∃ ys : List (List UInt8), zs = ys.map mk ∧ partL 10 s.data.toList = ys ++ joinHead (s.extract f i).data.toList (partL 10 (s.data.toList.drop i))) ∧ Hid (StrsOwn w.heap.size wr ov zs) ∧ Hid (Below w.heap.size w wr)) (fun _ _ iv _ => s.size - (intOf iv).toNat)
  case atStart => exact ⟨0, 0, [], by omega, by omega, rfl, rfl, Lib.hid ⟨by simp, [], rfl, part_start 10 s⟩, Lib.hid (World.ownsRow_nil _ _ _ _), Lib.hid (Below.refl _ _)⟩
  case round =>
    obtain ⟨f, i, zs, hfi, his, rfl, rfl, HP, HO, HB⟩ := hrel
    by_cases hlt : i < s.size
    · by_cases hc : s[i] = 10
      · have t1 : ((s[i].toNat : Int) == 10) = true := by rw [hc]; rfl
        have HP2 := Lib.hid (show (zs ++ [s.extract f i]).length ≤ i + 1 ∧ ∃ ys : List (List UInt8), zs ++ [s.extract f i] = ys.map mk ∧ partL 10 s.data.toList = ys ++ joinHead (s.extract (i + 1) (i + 1)).data.toList (partL 10 (s.data.toList.drop (i + 1))) by
          obtain ⟨h1, ys, h2, h3⟩ := HP.out
          exact ⟨by simp; omega, ys ++ [(s.extract f i).data.toList], by rw [h2, List.map_append]; simp only [List.map_cons, List.map_nil, mk_data], part_yes 10 s f i hlt hc ys h3⟩)
        go_wp2_with (at_builtin; refine wpList_append_lies _ rfl (.tmp 17) (.tmp 22) 23 rfl w.heap.size 9 i0 (.string ⟨#[]⟩) 1 16 Try.underlying23 hi hz0 hz1 hz2 rfl (by decide) _ _ _ rfl (HO.out.alloc _) ⟨wr.heap.size, 0, none⟩ 1 1 [Value.string (s.extract f i)] rfl rfl (World.news_of_block (heap_alloc_new _ _)) (str_one [_]) (by decide) (by have := HP.out.1; have := HS.out; unfold maxLen; simp; omega) (by have := HP.out.1; have := HS.out; simp; omega) (by have := HB.out.size; simp; omega) _ rfl ?_)
        intro g cap w2 hown2 hgrow hat hltg
        have HO2 := Lib.hid (strs_snoc hown2)
        have HB2 := Lib.hid ((HB.out.alloc HB.out.size _).grown hgrow (by have := HB.out.size; simp; omega) (fun k hk => (HO.out.lt k hk).1))
        clear hown2 hgrow hat hltg
        go_wp2
        exact ⟨⟨i + 1, i + 1, _, by omega, by omega, by go_num, by go_num, HP2, HO2, HB2⟩, by simp [intOf]; omega⟩
      · have t1 : ((s[i].toNat : Int) == 10) = false := by simp; intro h; exact hc (UInt8.toNat_inj.1 (by have : (10 : UInt8).toNat = 10 := rfl; omega))
        have HP2 := Lib.hid (show zs.length ≤ i + 1 ∧ ∃ ys : List (List UInt8), zs = ys.map mk ∧ partL 10 s.data.toList = ys ++ joinHead (s.extract f (i + 1)).data.toList (partL 10 (s.data.toList.drop (i + 1))) by
          obtain ⟨h1, ys, h2, h3⟩ := HP.out
          exact ⟨by omega, ys, h2, part_no 10 s f i hfi hlt hc ys h3⟩)
        go_wp2
        exact ⟨⟨f, i + 1, zs, by omega, by omega, rfl, by go_num, HP2, HO, HB⟩, by simp [intOf]; omega⟩
    · obtain rfl : i = s.size := by omega
      have HP2 := Lib.hid (lines_parts s f hfi zs (by
        obtain ⟨h1, ys, h2, h3⟩ := HP.out
        rw [h2]; exact part_end 10 s f ys h3))
      by_cases hf : f < s.size
      · have HF := Lib.hid (HP2.out.1 hf)
        go_wp2
        go_ret2
        exact ⟨.slice none 0 0, by rw [HF.out]; rfl, by rw [HF.out]; exact World.ownsRow_nil _ _ _ _, HB.out⟩
      · have HF := Lib.hid (HP2.out.2 hf)
        obtain rfl : f = s.size := by omega
        go_wp2
        go_ret2
        exact ⟨_, by rw [HF.out]; rfl, by rw [HF.out]; exact HO.out, HB.out⟩
end Go.Proofs.Ytaghjiffmondjaa
