/-
  the law TextWords, walked: it answers true.
-/
import Derived.Test.YtaghjiffmondjaaB37
import Derived.Test.YtaghjiffmondjaaB28
set_option linter.unusedVariables false
set_option linter.unusedSimpArgs false
namespace Go.Proofs.Ytaghjiffmondjaa
open Go.RowKit


theorem wordsGo_len : ∀ (l zs : List ByteArray), wordsGo l = some zs → zs.length ≤ l.length
  | [], zs, h => by simp [wordsGo] at h; subst h; simp
  | p :: l, zs, h => by
    simp only [wordsGo] at h
    split at h
    · cases hg : wordsGo l with
      | none => rw [hg] at h; cases h
      | some x =>
        rw [hg] at h
        simp only [Option.map_some, Option.some.injEq] at h
        subst h
        have := wordsGo_len l x hg
        simp; omega
    · cases h
theorem words_len (s : ByteArray) (h : s.size ≤ 9000000000000) : (wordsOf s).1.length ≤ 2 ^ 63 - 1 := by
  unfold wordsOf
  split
  · simp
  · split
    · rename_i l hl
      have h1 := wordsGo_len _ _ hl
      have h2 := partL_len 32 s.data.toList
      have h3 : s.data.toList.length = s.size := by simp
      rw [List.length_map] at h1
      simp only; omega
    · simp
set_option maxHeartbeats 1000000 in
set_option maxRecDepth 100000 in
theorem textWords_calls (s : ByteArray) (hs : s.size ≤ 1048576) (w : World) :
    Calls Try.prog 9 #[.string s] w fun e w' => e = .returned (.bool true) ∧ Below w.heap.size w w' := by
  have HS := Lib.hid hs
  have HB0 := Lib.hid (Below.refl w.heap.size w)
  clear hs
  go_enter Try.func9, Try.ntmps9
  go_wp2_with fail
  refine (name_calls s (by have := HS.out; unfold maxLen; omega) w).mono ?_
  rintro e w1 ⟨rfl, rfl⟩
  go_wp2_with fail
  refine (rName_calls s (by have := HS.out; omega) w).mono ?_
  rintro e w2 ⟨rfl, rfl⟩
  generalize nameOk s = nm
  go_wp2_with fail
  refine (escape_calls s (by have := HS.out; omega) w).mono ?_
  rintro e w3 ⟨rfl, hb⟩
  have HB3 := Lib.hid (HB0.out.trans (hb.mono HB0.out.size))
  clear hb
  go_wp2_with fail
  refine (rEscape_calls s (by have := HS.out; omega) w3).mono ?_
  rintro e w4 ⟨rfl, hb⟩
  have HB4 := Lib.hid (HB3.out.trans (hb.mono HB3.out.size))
  clear hb
  have t1 := str_eq (escape s)
  generalize escape s = D at t1 ⊢
  go_wp2_with fail
  refine (unescape_calls s (by have := HS.out; omega) w4).mono ?_
  rintro e w5 ⟨rfl, hb⟩
  have HB5 := Lib.hid (HB4.out.trans (hb.mono HB4.out.size))
  clear hb
  go_wp2_with fail
  refine (rUnescape_calls s (by have := HS.out; omega) w5).mono ?_
  rintro e w6 ⟨rfl, hb⟩
  have HB6 := Lib.hid (HB5.out.trans (hb.mono HB5.out.size))
  clear hb
  have t2 := str_eq (unescape s).1
  generalize (unescape s).1 = U1 at t2 ⊢
  generalize (unescape s).2 = U2
  go_wp2_with fail
  refine (words_calls s (by have := HS.out; omega) w6).mono ?_
  rintro e w7 ⟨v1, rfl, ho1, hb⟩
  have HB7 := Lib.hid (HB6.out.trans (hb.mono HB6.out.size))
  have HI1 := Lib.hid (StrsIn.of_own ho1)
  clear hb ho1
  go_wp2_with fail
  refine (rWords_calls s (by have := HS.out; omega) w7).mono ?_
  rintro e w8 ⟨v2, rfl, ho2, hb⟩
  have HB8 := Lib.hid (HB7.out.trans (hb.mono HB7.out.size))
  have HI1b := Lib.hid (HI1.out.keep hb.block hb.size)
  have HI2 := Lib.hid (StrsIn.of_own ho2)
  clear hb ho2 HI1
  have HLN := Lib.hid (words_len s (by have := HS.out; omega))
  go_wp2_with fail
  refine (same_calls (wordsOf s).1 (wordsOf s).1 HLN.out HLN.out _ _ w8 HI1b.out HI2.out).mono ?_
  rintro e w9 ⟨rfl, hb⟩
  rw [show sameB (wordsOf s).1 (wordsOf s).1 = true from decide_eq_true rfl]
  have HB9 := Lib.hid (HB8.out.trans (hb.mono HB8.out.size))
  clear hb
  generalize (wordsOf s).2 = W2
  go_wp2
  go_ret
  exact ⟨rfl, HB9.out⟩
end Go.Proofs.Ytaghjiffmondjaa
