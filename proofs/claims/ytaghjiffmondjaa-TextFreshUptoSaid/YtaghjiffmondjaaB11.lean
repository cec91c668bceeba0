/-
  text.parted, text.Lines: a text in its parts.
-/
import Derived.Test.YtaghjiffmondjaaB10
set_option linter.unusedSimpArgs false
set_option linter.unusedVariables false
namespace Go.Proofs.Ytaghjiffmondjaa
open Go.RowKit

def mk (l : List UInt8) : ByteArray := ⟨l.toArray⟩
def partL (c : UInt8) : List UInt8 → List (List UInt8)
  | [] => [[]]
  | x :: l => if x = c then [] :: partL c l else match partL c l with
    | p :: ps => (x :: p) :: ps
    | [] => [[x]]
def joinHead (p : List UInt8) : List (List UInt8) → List (List UInt8)
  | q :: qs => (p ++ q) :: qs
  | [] => [p]
theorem partL_ne (c : UInt8) (l : List UInt8) : partL c l ≠ [] := by
  cases l with
  | nil => simp [partL]
  | cons x l => unfold partL; split; · simp
                · split <;> simp
theorem joinHead_sep (c : UInt8) (p l : List UInt8) : joinHead p (partL c (c :: l)) = p :: joinHead [] (partL c l) := by
  have h := partL_ne c l
  simp only [partL, if_true, joinHead]
  cases hp : partL c l with
  | nil => exact absurd hp h
  | cons q qs => simp [joinHead]
theorem joinHead_other (c x : UInt8) (p l : List UInt8) (h : x ≠ c) : joinHead p (partL c (x :: l)) = joinHead (p ++ [x]) (partL c l) := by
  have hn := partL_ne c l
  simp only [partL, if_neg h]
  cases hp : partL c l with
  | nil => exact absurd hp hn
  | cons q qs => simp [joinHead]
theorem partL_len (c : UInt8) : ∀ l, (partL c l).length ≤ l.length + 1
  | [] => by simp [partL]
  | x :: l => by
    have ih := partL_len c l
    have hn := partL_ne c l
    unfold partL
    split
    · simp; exact ih
    · cases hp : partL c l with
      | nil => exact absurd hp hn
      | cons q qs => rw [hp] at ih; simp at ih ⊢; omega

theorem info9 : (Try.prog.info? 9).map (fun i => (i.zero, i.size, i.bytes)) = some (some (.string ⟨#[]⟩), 1, 16) := by kernel_rfl
theorem str_one (l : List ByteArray) : ∀ u ∈ l.map Value.string, u.oneCell' = true := by
  intro u hu
  obtain ⟨c, _, rfl⟩ := List.mem_map.1 hu
  rfl
/-- a slice of the call's own that has these texts -/
def StrsOwn (B : Nat) (w : World) (v : Value) (xs : List ByteArray) : Prop := w.ownsRow B 9 1 v xs.length (xs.map Value.string)

theorem part_start (c : UInt8) (s : ByteArray) : partL c s.data.toList = [] ++ joinHead (s.extract 0 0).data.toList (partL c (s.data.toList.drop 0)) := by
  have e : (s.extract 0 0).data.toList = [] := by rw [ByteArray.data_extract, Array.toList_extract, List.extract_eq_take_drop]; simp
  rw [e]
  have hn := partL_ne c s.data.toList
  simp only [List.nil_append, List.drop_zero]
  cases hp : partL c s.data.toList with
  | nil => exact absurd hp hn
  | cons q qs => simp [joinHead]
theorem ext_list (s : ByteArray) (f i : Nat) : (s.extract f i).data.toList = (s.data.toList.drop f).take (i - f) := by
  rw [ByteArray.data_extract, Array.toList_extract, List.extract_eq_take_drop]
theorem drop_at (s : ByteArray) (i : Nat) (hi : i < s.size) : s.data.toList.drop i = s[i] :: s.data.toList.drop (i + 1) := by
  rw [List.drop_eq_getElem_cons (by simpa using hi)]; rfl
theorem part_yes (c : UInt8) (s : ByteArray) (f i : Nat) (hi : i < s.size) (hc : s[i] = c) (ys : List (List UInt8)) (h : partL c s.data.toList = ys ++ joinHead (s.extract f i).data.toList (partL c (s.data.toList.drop i))) :
    partL c s.data.toList = (ys ++ [(s.extract f i).data.toList]) ++ joinHead (s.extract (i + 1) (i + 1)).data.toList (partL c (s.data.toList.drop (i + 1))) := by
  rw [h, drop_at s i hi, hc, joinHead_sep, List.append_assoc]
  have e : (s.extract (i + 1) (i + 1)).data.toList = [] := by rw [ext_list]; simp
  rw [e]; rfl
theorem part_no (c : UInt8) (s : ByteArray) (f i : Nat) (hfi : f ≤ i) (hi : i < s.size) (hc : ¬ s[i] = c) (ys : List (List UInt8)) (h : partL c s.data.toList = ys ++ joinHead (s.extract f i).data.toList (partL c (s.data.toList.drop i))) :
    partL c s.data.toList = ys ++ joinHead (s.extract f (i + 1)).data.toList (partL c (s.data.toList.drop (i + 1))) := by
  rw [h, drop_at s i hi, joinHead_other c _ _ _ hc]
  have e : (s.extract f (i + 1)).data.toList = (s.extract f i).data.toList ++ [s[i]] := by
    rw [ext_list, ext_list, show i + 1 - f = (i - f) + 1 by omega, List.take_succ_eq_append_getElem (by simp; omega)]
    congr 2
    rw [List.getElem_drop]
    have : f + (i - f) = i := by omega
    simp only [this]; rfl
  rw [e]
theorem mk_data (a : ByteArray) : mk a.data.toList = a := bytes_ext (by simp [mk])
theorem part_end (c : UInt8) (s : ByteArray) (f : Nat) (ys : List (List UInt8)) (h : partL c s.data.toList = ys ++ joinHead (s.extract f s.size).data.toList (partL c (s.data.toList.drop s.size))) :
    (partL c s.data.toList).map mk = ys.map mk ++ [s.extract f s.size] := by
  have e : s.data.toList.drop s.size = [] := List.drop_eq_nil_of_le (by simp)
  rw [h, e]
  have e2 : mk (s.extract f s.size).data.toList = s.extract f s.size := bytes_ext (by simp [mk])
  simp only [partL, joinHead, List.append_nil, List.map_append, List.map_cons, List.map_nil, e2]
theorem strs_snoc {w : World} {B : Nat} {v : Value} {ys : List ByteArray} {x : ByteArray} (h : w.ownsRow B 9 1 v (ys.length + 1) (ys.map Value.string ++ [Value.string x])) : StrsOwn B w v (ys ++ [x]) := by
  unfold StrsOwn
  rw [List.length_append, List.map_append]; exact h

set_option maxRecDepth 100000 in
theorem parted_calls (s : ByteArray) (hs : s.size ≤ 8000000000000) (c : UInt8) (w : World) :
    Calls Try.prog 42 #[.string s, .int .u8 (c.toNat : Int)] w fun e w' => ∃ v, e = .returned v ∧ StrsOwn w.heap.size w' v ((partL c s.data.toList).map mk) ∧ Below w.heap.size w w' := by
  obtain ⟨i0, hi, hz0, hz1, hz2⟩ := info_parts info9
  have HS := Lib.hid hs
  replace hs : s.size ≤ 2 ^ 63 - 1 := by omega
  go_enter Try.func42, Try.ntmps42
  go_wp2
  go_loopw [5, 6, 7] (fun ov fv iv wr => ∃ (f i : Nat) (zs : List ByteArray), f ≤ i ∧ i ≤ s.size ∧ fv = .int .i64 f ∧ iv = .int .i64 i ∧ Hid (zs.length ≤ i ∧ ∃ ys : List (List UInt8), zs = ys.map mk ∧ partL c s.data.toList = ys ++ joinHead (s.extract f i).data.toList (partL c (s.data.toList.drop i))) ∧ Hid (StrsOwn w.heap.size wr ov zs) ∧ Hid (Below w.heap.size w wr)) (fun _ _ iv _ => s.size - (intOf iv).toNat)
  case atStart => exact ⟨0, 0, [], by omega, by omega, rfl, rfl, Lib.hid ⟨by simp, [], rfl, part_start c s⟩, Lib.hid (World.ownsRow_nil _ _ _ _), Lib.hid (Below.refl _ _)⟩
  case round =>
    obtain ⟨f, i, zs, hfi, his, rfl, rfl, HP, HO, HB⟩ := hrel
    by_cases hlt : i < s.size
    · by_cases hc : s[i] = c
      · have t1 : ((s[i].toNat : Int) == (c.toNat : Int)) = true := by rw [hc]; simp
        have HP2 := Lib.hid (show (zs ++ [s.extract f i]).length ≤ i + 1 ∧ ∃ ys : List (List UInt8), zs ++ [s.extract f i] = ys.map mk ∧ partL c s.data.toList = ys ++ joinHead (s.extract (i + 1) (i + 1)).data.toList (partL c (s.data.toList.drop (i + 1))) by
          obtain ⟨h1, ys, h2, h3⟩ := HP.out
          exact ⟨by simp; omega, ys ++ [(s.extract f i).data.toList], by rw [h2, List.map_append]; simp only [List.map_cons, List.map_nil, mk_data], part_yes c s f i hlt hc ys h3⟩)
        go_wp2_with (at_builtin; refine wpList_append_lies _ rfl (.tmp 19) (.tmp 24) 23 rfl w.heap.size 9 i0 (.string ⟨#[]⟩) 1 16 Try.underlying23 hi hz0 hz1 hz2 rfl (by decide) _ _ _ rfl (HO.out.alloc _) ⟨wr.heap.size, 0, none⟩ 1 1 [Value.string (s.extract f i)] rfl rfl (World.news_of_block (heap_alloc_new _ _)) (str_one [_]) (by decide) (by have := HP.out.1; have := HS.out; unfold maxLen; simp; omega) (by have := HP.out.1; have := HS.out; simp; omega) (by have := HB.out.size; simp; omega) _ rfl ?_)
        intro g cap w2 hown2 hgrow hat hltg
        have HO2 := Lib.hid (strs_snoc hown2)
        have HB2 := Lib.hid ((HB.out.alloc HB.out.size _).grown hgrow (by have := HB.out.size; simp; omega) (fun k hk => (HO.out.lt k hk).1))
        clear hown2 hgrow hat hltg
        go_wp2
        exact ⟨⟨i + 1, i + 1, _, by omega, by omega, by go_num, by go_num, HP2, HO2, HB2⟩, by simp [intOf]; omega⟩
      · have t1 : ((s[i].toNat : Int) == (c.toNat : Int)) = false := by simp; intro h; exact hc (UInt8.toNat_inj.1 (by omega))
        have HP2 := Lib.hid (show zs.length ≤ i + 1 ∧ ∃ ys : List (List UInt8), zs = ys.map mk ∧ partL c s.data.toList = ys ++ joinHead (s.extract f (i + 1)).data.toList (partL c (s.data.toList.drop (i + 1))) by
          obtain ⟨h1, ys, h2, h3⟩ := HP.out
          exact ⟨by omega, ys, h2, part_no c s f i hfi hlt hc ys h3⟩)
        go_wp2
        exact ⟨⟨f, i + 1, zs, by omega, by omega, rfl, by go_num, HP2, HO, HB⟩, by simp [intOf]; omega⟩
    · obtain rfl : i = s.size := by omega
      have HP2 := Lib.hid (show (partL c s.data.toList).map mk = zs ++ [s.extract f s.size] by
        obtain ⟨h1, ys, h2, h3⟩ := HP.out
        rw [h2]; exact part_end c s f ys h3)
      go_wp2_with (at_builtin; refine wpList_append_lies _ rfl (.tmp 28) (.tmp 32) 23 rfl w.heap.size 9 i0 (.string ⟨#[]⟩) 1 16 Try.underlying23 hi hz0 hz1 hz2 rfl (by decide) _ _ _ rfl (HO.out.alloc _) ⟨wr.heap.size, 0, none⟩ 1 1 [Value.string (s.extract f s.size)] rfl rfl (World.news_of_block (heap_alloc_new _ _)) (str_one [_]) (by decide) (by have := HP.out.1; have := HS.out; unfold maxLen; simp; omega) (by have := HP.out.1; have := HS.out; simp; omega) (by have := HB.out.size; simp; omega) _ rfl ?_)
      intro g cap w2 hown2 hgrow hat hltg
      have HO2 := Lib.hid (strs_snoc hown2)
      have HB2 := Lib.hid ((HB.out.alloc HB.out.size _).grown hgrow (by have := HB.out.size; simp; omega) (fun k hk => (HO.out.lt k hk).1))
      clear hown2 hgrow hat hltg
      go_wp2
      go_ret
      refine ⟨_, rfl, ?_, HB2.out⟩
      have := HO2.out
      rw [← HP2.out] at this
      exact this
end Go.Proofs.Ytaghjiffmondjaa
