/-
  the document's own Words.
-/
import Derived.Test.YtaghjiffmondjaaB36
set_option linter.unusedVariables false
set_option linter.unusedSimpArgs false
namespace Go.Proofs.Ytaghjiffmondjaa
open Go.RowKit


theorem wordsGo_app : ∀ (a b : List ByteArray), wordsGo (a ++ b) = (wordsGo a).bind fun x => (wordsGo b).map (x ++ ·)
  | [], b => by simp [wordsGo]
  | p :: a, b => by
    simp only [List.cons_append, wordsGo]
    split
    · rw [wordsGo_app a b]
      cases wordsGo a with
      | none => rfl
      | some x => simp only [Option.bind_some, Option.map_some]; cases wordsGo b <;> rfl
    · rfl
theorem wordsGo_err (a b : List ByteArray) (p : ByteArray) (h : (unescape p).2 ≠ 0) : wordsGo (a ++ p :: b) = none := by
  rw [wordsGo_app]
  simp only [wordsGo, if_neg h, Option.map_none]
  cases wordsGo a <;> rfl
theorem wordsGo_snoc (a : List ByteArray) (p : ByteArray) (zs : List ByteArray) (ha : wordsGo a = some zs) (h : (unescape p).2 = 0) : wordsGo (a ++ [p]) = some (zs ++ [(unescape p).1]) := by
  rw [wordsGo_app, ha]
  simp [wordsGo, h]
/-- ahead of byte i: the parts that are read are zs, the part under way begins at f -/
def WordsI (s : ByteArray) (f i : Nat) (zs : List ByteArray) : Prop :=
  (i ≤ s.size → ∃ ys : List (List UInt8), wordsGo (ys.map mk) = some zs ∧ partL 32 s.data.toList = ys ++ joinHead (s.extract f i).data.toList (partL 32 (s.data.toList.drop i))) ∧
  (¬ i ≤ s.size → wordsGo ((partL 32 s.data.toList).map mk) = some zs)
theorem words_start (s : ByteArray) : WordsI s 0 0 [] := ⟨fun _ => ⟨[], rfl, part_start 32 s⟩, fun h => absurd (Nat.zero_le _) h⟩
theorem words_no (s : ByteArray) (f i : Nat) (zs : List ByteArray) (hf : f ≤ i) (hi : i < s.size) (hc : ¬ s[i] = 32) (h : WordsI s f i zs) : WordsI s f (i + 1) zs := by
  obtain ⟨ys, h1, h2⟩ := h.1 (by omega)
  exact ⟨fun _ => ⟨ys, h1, part_no 32 s f i hf hi hc ys h2⟩, fun h => absurd (by omega) h⟩
theorem words_yes (s : ByteArray) (f i : Nat) (zs : List ByteArray) (hi : i < s.size) (hc : s[i] = 32) (h : WordsI s f i zs) :
    ((unescape (s.extract f i)).2 = 0 → WordsI s (i + 1) (i + 1) (zs ++ [(unescape (s.extract f i)).1])) ∧ ((unescape (s.extract f i)).2 ≠ 0 → wordsGo ((partL 32 s.data.toList).map mk) = none) := by
  obtain ⟨ys, h1, h2⟩ := h.1 (by omega)
  have h3 := part_yes 32 s f i hi hc ys h2
  refine ⟨fun h0 => ⟨fun _ => ⟨_, ?_, h3⟩, fun h => absurd (by omega) h⟩, fun h0 => ?_⟩
  · rw [List.map_append, List.map_cons, List.map_nil, mk_data]
    exact wordsGo_snoc _ _ _ h1 h0
  · rw [h3, List.map_append, List.map_append, List.map_cons, List.map_nil, mk_data, List.append_assoc]
    exact wordsGo_err _ _ _ h0
theorem words_last (s : ByteArray) (f : Nat) (zs : List ByteArray) (h : WordsI s f s.size zs) :
    ((unescape (s.extract f s.size)).2 = 0 → WordsI s (s.size + 1) (s.size + 1) (zs ++ [(unescape (s.extract f s.size)).1])) ∧ ((unescape (s.extract f s.size)).2 ≠ 0 → wordsGo ((partL 32 s.data.toList).map mk) = none) := by
  obtain ⟨ys, h1, h2⟩ := h.1 (by omega)
  have h3 := part_end 32 s f ys h2
  refine ⟨fun h0 => ⟨fun h => absurd h (by omega), fun _ => ?_⟩, fun h0 => ?_⟩
  · rw [h3]; exact wordsGo_snoc _ _ _ h1 h0
  · rw [h3]; exact wordsGo_err _ _ _ h0
theorem words_step (s : ByteArray) (f i : Nat) (zs : List ByteArray) (hi : i ≤ s.size) (hc : ∀ h : i < s.size, s[i] = 32) (h : WordsI s f i zs) :
    ((unescape (s.extract f i)).2 = 0 → WordsI s (i + 1) (i + 1) (zs ++ [(unescape (s.extract f i)).1])) ∧ ((unescape (s.extract f i)).2 ≠ 0 → wordsGo ((partL 32 s.data.toList).map mk) = none) := by
  by_cases hlt : i < s.size
  · exact words_yes s f i zs hlt (hc hlt) h
  · obtain rfl : i = s.size := by omega
    exact words_last s f zs h
set_option maxHeartbeats 1000000 in
set_option maxRecDepth 100000 in
theorem rWords_calls (s : ByteArray) (hs : s.size ≤ 8000000000000) (w : World) :
    Calls Try.prog 37 #[.string s] w fun e w' => ∃ v, e = .returned (.tuple #[v, .int .i64 (wordsOf s).2]) ∧ StrsOwn w.heap.size w' v (wordsOf s).1 ∧ Below w.heap.size w w' := by
  by_cases h0 : s.size = 0
  · have h1 : s.toList = [] := toList_of_size h0
    have h2 : s.size ≤ 0 := by omega
    have HF := Lib.hid (show wordsOf s = ([], 0) by unfold wordsOf; rw [if_pos h0])
    clear h0
    go_enter Try.func37, Try.ntmps37
    go_wp2
    go_loopw [4, 6] (fun ov iv wr => ov = .slice none 0 0 ∧ iv = .int .i64 0 ∧ w = wr) (fun _ _ _ => 0)
    case atStart => exact ⟨rfl, rfl, rfl⟩
    case round =>
      obtain ⟨rfl, rfl, rfl⟩ := hrel
      have k1 : decide (0 ≤ (s.size : Int)) = true := decide_eq_true (by omega)
      have k2 : s.toList.isEmpty = true := by rw [h1]; rfl
      go_wp2
      go_ret2
      exact ⟨.slice none 0 0, by rw [HF.out]; rfl, by rw [HF.out]; exact World.ownsRow_nil _ _ _ _, Below.refl _ _⟩
  have h1 : s.toList.isEmpty = false := isEmpty_of_size h0
  have h1' : (!s.toList.isEmpty) = true := by rw [h1]; rfl
  have HF := Lib.hid (show wordsOf s = match wordsGo ((partL 32 s.data.toList).map mk) with
      | some l => (l, 0)
      | none => ([], 44) by unfold wordsOf; rw [if_neg h0]; rfl)
  have HS := Lib.hid hs
  replace hs : s.size ≤ 2 ^ 63 - 3 := by omega
  obtain ⟨i0, hi, hz0, hz1, hz2⟩ := info_parts info9
  clear h0
  go_enter Try.func37, Try.ntmps37
  go_wp2
  go_loopw [4, 5, 6] (fun ov fv iv wr => ∃ (f i : Nat) (zs : List ByteArray), f ≤ i ∧ i ≤ s.size + 1 ∧ fv = .int .i64 f ∧ iv = .int .i64 i ∧ Hid (zs.length ≤ i ∧ WordsI s f i zs) ∧ Hid (StrsOwn w.heap.size wr ov zs) ∧ Hid (Below w.heap.size w wr)) (fun _ _ iv _ => s.size + 1 - (intOf iv).toNat)
  case atStart => exact ⟨0, 0, [], by omega, by omega, rfl, rfl, Lib.hid ⟨by simp, words_start s⟩, Lib.hid (World.ownsRow_nil _ _ _ _), Lib.hid (Below.refl _ _)⟩
  case round =>
    obtain ⟨f, i, zs, hfi, his, rfl, rfl, HP, HO, HB⟩ := hrel
    by_cases hle : i ≤ s.size
    · have HQ := Lib.hid (words_step s f i zs hle)
      have k0 : decide (i ≤ s.size) = true := decide_eq_true hle
      have hend : (∀ h : i < s.size, s[i] = 32) ∨ ∃ h : i < s.size, ¬ s[i] = 32 := by
        by_cases hlt : i < s.size
        · by_cases hx : s[i] = 32
          · exact .inl fun _ => hx
          · exact .inr ⟨hlt, hx⟩
        · exact .inl fun h => absurd h hlt
      rcases hend with hend | ⟨hlt, hx⟩
      · have HQ2 := Lib.hid (HQ.out hend HP.out.2)
        have hsl : (s.extract f i).size ≤ 8000000000000 := by have := HS.out; simp; omega
        have HSL := Lib.hid hsl
        have t1 : (decide (i < s.size) = false) ∨ ∃ h : i < s.size, ((s[i].toNat : Int) != 32) = false ∧ decide (i < s.size) = true := by
          by_cases hlt : i < s.size
          · exact .inr ⟨hlt, by rw [hend hlt]; rfl, decide_eq_true hlt⟩
          · exact .inl (decide_eq_false hlt)
        clear hsl HQ
        rcases t1 with t1 | ⟨hlt, t1, t2⟩
        · clear hend
          go_wp2_with fail
          refine (rUnescape_calls (s.extract f i) (by have := HSL.out; omega) wr).mono ?_
          rintro e w3 ⟨rfl, hb3⟩
          have HB3 := Lib.hid (HB.out.trans (hb3.mono HB.out.size))
          have HO3 := Lib.hid (show StrsOwn w.heap.size w3 u4 zs from ownsRow_keep2 HO.out fun k hk => hb3.block k hk)
          clear hb3
          obtain ⟨r, hr⟩ : ∃ r, r = unescape (s.extract f i) := ⟨_, rfl⟩
          have hcode := unescape_code (s.extract f i)
          rw [← hr] at hcode HQ2 ⊢
          clear hr
          obtain ⟨r1, r2⟩ := r
          simp only at hcode ⊢
          rcases hcode with h2 | h2
          · have HP2 := Lib.hid (show (zs ++ [r1]).length ≤ i + 1 ∧ WordsI s (i + 1) (i + 1) (zs ++ [r1]) from ⟨by have := HP.out.1; simp; omega, HQ2.out.1 h2⟩)
            have t5 : (r2 != 0) = false := by simp [h2]
            clear h2
            go_wp2_with (at_builtin; refine wpList_append_lies _ rfl (.tmp 40) (.tmp 42) 23 rfl w.heap.size 9 i0 (.string ⟨#[]⟩) 1 16 Try.underlying23 hi hz0 hz1 hz2 rfl (by decide) _ _ _ rfl (HO3.out.alloc _) ⟨w3.heap.size, 0, none⟩ 1 1 [Value.string r1] rfl rfl (World.news_of_block (heap_alloc_new _ _)) (str_one [_]) (by decide) (by have := HP.out.1; have := HS.out; unfold maxLen; omega) (by have := HP.out.1; have := HS.out; omega) (by have := HB3.out.size; simp; omega) _ rfl ?_)
            intro g2 cap2 w4 hown2 hgrow hat hltg
            have HO4 := Lib.hid (strs_snoc hown2)
            have HB4 := Lib.hid ((HB3.out.alloc HB3.out.size _).grown hgrow (by have := HB3.out.size; simp; omega) (fun k hk => (HO3.out.lt k hk).1))
            clear hown2 hgrow hat hltg
            go_wp2
            exact ⟨⟨i + 1, i + 1, _, by omega, by omega, by go_num, by go_num, HP2, HO4, HB4⟩, by simp [intOf]; omega⟩
          · have t5 : (r2 != 0) = true := by simp [h2]
            have HF2 := Lib.hid (show wordsOf s = ([], r2) by
              rw [HF.out, HQ2.out.2 (by simp [h2])]; simp [h2])
            clear h2
            go_wp2
            go_ret2
            exact ⟨.slice none 0 0, by rw [HF2.out]; rfl, by rw [HF2.out]; exact World.ownsRow_nil _ _ _ _, HB3.out⟩
        · clear hend
          go_wp2_with fail
          refine (rUnescape_calls (s.extract f i) (by have := HSL.out; omega) wr).mono ?_
          rintro e w3 ⟨rfl, hb3⟩
          have HB3 := Lib.hid (HB.out.trans (hb3.mono HB.out.size))
          have HO3 := Lib.hid (show StrsOwn w.heap.size w3 u4 zs from ownsRow_keep2 HO.out fun k hk => hb3.block k hk)
          clear hb3
          obtain ⟨r, hr⟩ : ∃ r, r = unescape (s.extract f i) := ⟨_, rfl⟩
          have hcode := unescape_code (s.extract f i)
          rw [← hr] at hcode HQ2 ⊢
          clear hr
          obtain ⟨r1, r2⟩ := r
          simp only at hcode ⊢
          rcases hcode with h2 | h2
          · have HP2 := Lib.hid (show (zs ++ [r1]).length ≤ i + 1 ∧ WordsI s (i + 1) (i + 1) (zs ++ [r1]) from ⟨by have := HP.out.1; simp; omega, HQ2.out.1 h2⟩)
            have t5 : (r2 != 0) = false := by simp [h2]
            clear h2
            go_wp2_with (at_builtin; refine wpList_append_lies _ rfl (.tmp 40) (.tmp 42) 23 rfl w.heap.size 9 i0 (.string ⟨#[]⟩) 1 16 Try.underlying23 hi hz0 hz1 hz2 rfl (by decide) _ _ _ rfl (HO3.out.alloc _) ⟨w3.heap.size, 0, none⟩ 1 1 [Value.string r1] rfl rfl (World.news_of_block (heap_alloc_new _ _)) (str_one [_]) (by decide) (by have := HP.out.1; have := HS.out; unfold maxLen; omega) (by have := HP.out.1; have := HS.out; omega) (by have := HB3.out.size; simp; omega) _ rfl ?_)
            intro g2 cap2 w4 hown2 hgrow hat hltg
            have HO4 := Lib.hid (strs_snoc hown2)
            have HB4 := Lib.hid ((HB3.out.alloc HB3.out.size _).grown hgrow (by have := HB3.out.size; simp; omega) (fun k hk => (HO3.out.lt k hk).1))
            clear hown2 hgrow hat hltg
            go_wp2
            exact ⟨⟨i + 1, i + 1, _, by omega, by omega, by go_num, by go_num, HP2, HO4, HB4⟩, by simp [intOf]; omega⟩
          · have t5 : (r2 != 0) = true := by simp [h2]
            have HF2 := Lib.hid (show wordsOf s = ([], r2) by
              rw [HF.out, HQ2.out.2 (by simp [h2])]; simp [h2])
            clear h2
            go_wp2
            go_ret2
            exact ⟨.slice none 0 0, by rw [HF2.out]; rfl, by rw [HF2.out]; exact World.ownsRow_nil _ _ _ _, HB3.out⟩
      · have t1 : ((s[i].toNat : Int) != 32) = true := by
          simp; intro h; exact hx (UInt8.toNat_inj.1 (by have : (32 : UInt8).toNat = 32 := rfl; omega))
        have HP2 := Lib.hid (show zs.length ≤ i + 1 ∧ WordsI s f (i + 1) zs from ⟨by have := HP.out.1; omega, words_no s f i zs hfi hlt hx HP.out.2⟩)
        clear hx
        go_wp2
        exact ⟨⟨f, i + 1, zs, by omega, by omega, rfl, by go_num, HP2, HO, HB⟩, by simp [intOf]; omega⟩
    · have HF2 := Lib.hid (show wordsOf s = (zs, 0) by rw [HF.out, HP.out.2.2 hle])
      have k0 : decide (i ≤ s.size) = false := decide_eq_false hle
      go_wp2
      go_ret2
      exact ⟨_, by rw [HF2.out]; rfl, by rw [HF2.out]; exact HO.out, HB.out⟩
end Go.Proofs.Ytaghjiffmondjaa
