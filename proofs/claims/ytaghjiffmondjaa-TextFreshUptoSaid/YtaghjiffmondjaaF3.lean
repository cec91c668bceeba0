/-
  asked2.
-/
import Derived.Test.YtaghjiffmondjaaF2
import Derived.Test.YtaghjiffmondjaaB38
import Derived.Test.YtaghjiffmondjaaB24
set_option linter.unusedVariables false
set_option linter.unusedSimpArgs false
namespace Go.Proofs.Ytaghjiffmondjaa
open Go.RowKit


theorem StrsIn.of_slin {w : World} {v : Value} {xs : List ByteArray} {F : Nat → Prop} (h : SlIn w v (xs.map Value.string) F) : StrsIn w v xs := by
  obtain ⟨A, cap, e, _, h⟩ := h.strs
  exact ⟨A, cap, e, h⟩
theorem lines_le (s : ByteArray) : (linesOf s).1.length ≤ s.size + 1 := by
  unfold linesOf
  split
  · simp
  · split
    · have := partL_len 10 s.data.toList.dropLast
      simp only [List.length_map]
      have h3 : s.data.toList.length = s.size := by simp
      rw [List.length_dropLast] at this
      omega
    · simp
theorem words_le (s : ByteArray) : (wordsOf s).1.length ≤ s.size + 1 := by
  unfold wordsOf
  split
  · simp
  · split
    · rename_i l hl
      have h1 := wordsGo_len _ _ hl
      have h2 := partL_len 32 s.data.toList
      have h3 : s.data.toList.length = s.size := by simp
      rw [List.length_map] at h1
      simp only; omega
    · simp
def Fresh (w w' : World) (b : Nat) : Prop := w.heap.size ≤ b ∧ b < w'.heap.size
theorem lines_row (s : ByteArray) (hs : s.size ≤ 1048576) (w : World) : Calls Try.prog 13 #[.string s] w fun e w' => ∃ v, e = .returned (.tuple #[v, .int .i64 (linesOf s).2]) ∧ Row 9 w' v ((linesOf s).1.map Value.string) (Fresh w w') ∧ Below w.heap.size w w' :=
  (lines_calls s (by omega) w).mono fun e w' ⟨v, h1, h2, h3⟩ => ⟨v, h1, Row.of_own h2, h3⟩
theorem words_row (s : ByteArray) (hs : s.size ≤ 1048576) (w : World) : Calls Try.prog 31 #[.string s] w fun e w' => ∃ v, e = .returned (.tuple #[v, .int .i64 (wordsOf s).2]) ∧ Row 9 w' v ((wordsOf s).1.map Value.string) (Fresh w w') ∧ Below w.heap.size w w' :=
  (words_calls s (by omega) w).mono fun e w' ⟨v, h1, h2, h3⟩ => ⟨v, h1, Row.of_own h2, h3⟩
theorem rlines_row (s : ByteArray) (hs : s.size ≤ 1048576) (w : World) : Calls Try.prog 14 #[.string s] w fun e w' => ∃ v, e = .returned (.tuple #[v, .int .i64 (linesOf s).2]) ∧ Row 9 w' v ((linesOf s).1.map Value.string) (Fresh w w') ∧ Below w.heap.size w w' :=
  (rLines_calls s (by omega) w).mono fun e w' ⟨v, h1, h2, h3⟩ => ⟨v, h1, Row.of_own h2, h3⟩
theorem rwords_row (s : ByteArray) (hs : s.size ≤ 1048576) (w : World) : Calls Try.prog 37 #[.string s] w fun e w' => ∃ v, e = .returned (.tuple #[v, .int .i64 (wordsOf s).2]) ∧ Row 9 w' v ((wordsOf s).1.map Value.string) (Fresh w w') ∧ Below w.heap.size w w' :=
  (rWords_calls s (by omega) w).mono fun e w' ⟨v, h1, h2, h3⟩ => ⟨v, h1, Row.of_own h2, h3⟩
theorem same_rows (xs : List ByteArray) (hx : xs.length ≤ 1000000000) {va vb : Value} {w : World} {F G : Nat → Prop} (h1 : Row 9 w va (xs.map Value.string) F) (h2 : Row 9 w vb (xs.map Value.string) G) :
    Calls Try.prog 17 #[va, vb] w fun e w' => e = .returned (.bool true) ∧ Below w.heap.size w w' :=
  (same_calls xs xs (by omega) (by omega) va vb w (StrsIn.of_slin h1.slin) (StrsIn.of_slin h2.slin)).mono fun e w' ⟨h3, h4⟩ => ⟨by rw [h3]; unfold sameB; simp, h4⟩
theorem Row.below {e : TypeId} {w w' : World} {v : Value} {us : List Value} {F : Nat → Prop} (h : Row e w v us F) (hb : Below w.heap.size w w') : Row e w' v us F := h.keep fun b hl _ => hb.block b hl
theorem ranges_apart (f : Nat → Nat) (hm : ∀ k, f k ≤ f (k + 1)) {i j b : Nat} (h : i ≠ j) (h1 : f i ≤ b ∧ b < f (i + 1)) : ¬ (f j ≤ b ∧ b < f (j + 1)) := by
  have mono : ∀ m d, f m ≤ f (m + d) := fun m d => by
    induction d with
    | zero => exact Nat.le_refl _
    | succ d ih => exact Nat.le_trans ih (hm (m + d))
  intro h2
  rcases Nat.lt_or_gt_of_ne h with h3 | h3
  · have := mono (i + 1) (j - (i + 1)); rw [show i + 1 + (j - (i + 1)) = j by omega] at this; omega
  · have := mono (j + 1) (i - (j + 1)); rw [show j + 1 + (i - (j + 1)) = i by omega] at this; omega
set_option maxHeartbeats 4000000 in
set_option maxRecDepth 100000 in
theorem asked2_calls (s line : ByteArray) (hs : s.size ≤ 1048576) (hl : line.size ≤ 1048576) (w : World) :
    Calls Try.prog 40 #[.string s, .string line] w fun r w' => r = .returned (.bool true) ∧ Below w.heap.size w w' := by
  have HS := Lib.hid hs
  have HL := Lib.hid hl
  clear hs hl
  go_enter Try.func40, Try.ntmps40
  go_wp2_with fail
  refine (lines_row s HS.out w).mono ?_
  rintro x w1 ⟨va, rfl, hr, hb⟩
  have HB1 := Lib.hid hb
  have Ra1 := Lib.hid hr
  clear hr hb
  go_wp2_with fail
  refine (lines_row s HS.out w1).mono ?_
  rintro x w2 ⟨vb, rfl, hr, hb⟩
  have HB2 := Lib.hid hb
  have Ra2 := Lib.hid (Ra1.out.below hb)
  clear Ra1
  have Rb2 := Lib.hid hr
  clear hr hb
  go_wp2_with fail
  refine (words_row line HL.out w2).mono ?_
  rintro x w3 ⟨vc, rfl, hr, hb⟩
  have HB3 := Lib.hid hb
  have Ra3 := Lib.hid (Ra2.out.below hb)
  have Rb3 := Lib.hid (Rb2.out.below hb)
  clear Ra2 Rb2
  have Rc3 := Lib.hid hr
  clear hr hb
  go_wp2_with fail
  refine (words_row line HL.out w3).mono ?_
  rintro x w4 ⟨vd, rfl, hr, hb⟩
  have HB4 := Lib.hid hb
  have Ra4 := Lib.hid (Ra3.out.below hb)
  have Rb4 := Lib.hid (Rb3.out.below hb)
  have Rc4 := Lib.hid (Rc3.out.below hb)
  clear Ra3 Rb3 Rc3
  have Rd4 := Lib.hid hr
  clear hr hb
  go_wp2_with fail
  refine (rlines_row s HS.out w4).mono ?_
  rintro x w5 ⟨vm, rfl, hr, hb⟩
  have HB5 := Lib.hid hb
  have Ra5 := Lib.hid (Ra4.out.below hb)
  have Rb5 := Lib.hid (Rb4.out.below hb)
  have Rc5 := Lib.hid (Rc4.out.below hb)
  have Rd5 := Lib.hid (Rd4.out.below hb)
  clear Ra4 Rb4 Rc4 Rd4
  have Rm5 := Lib.hid hr
  clear hr hb
  go_wp2_with fail
  refine (rwords_row line HL.out w5).mono ?_
  rintro x w6 ⟨vx, rfl, hr, hb⟩
  have HB6 := Lib.hid hb
  have Ra6 := Lib.hid (Ra5.out.below hb)
  have Rb6 := Lib.hid (Rb5.out.below hb)
  have Rc6 := Lib.hid (Rc5.out.below hb)
  have Rd6 := Lib.hid (Rd5.out.below hb)
  have Rm6 := Lib.hid (Rm5.out.below hb)
  clear Ra5 Rb5 Rc5 Rd5 Rm5
  have Rx6 := Lib.hid hr
  clear hr hb
  go_wp2_with fail
  refine (same_rows _ (by have := lines_le s; have := HS.out; omega) Ra6.out Rm6.out).mono ?_
  rintro x w7 ⟨rfl, hb⟩
  have HB7 := Lib.hid hb
  have Ra7 := Lib.hid (Ra6.out.below hb)
  have Rb7 := Lib.hid (Rb6.out.below hb)
  have Rc7 := Lib.hid (Rc6.out.below hb)
  have Rd7 := Lib.hid (Rd6.out.below hb)
  have Rm7 := Lib.hid (Rm6.out.below hb)
  have Rx7 := Lib.hid (Rx6.out.below hb)
  clear hb Ra6 Rb6 Rc6 Rd6 Rm6 Rx6
  go_wp2_with fail
  refine (same_rows _ (by have := lines_le s; have := HS.out; omega) Rb7.out Rm7.out).mono ?_
  rintro x w8 ⟨rfl, hb⟩
  have HB8 := Lib.hid hb
  have Ra8 := Lib.hid (Ra7.out.below hb)
  have Rb8 := Lib.hid (Rb7.out.below hb)
  have Rc8 := Lib.hid (Rc7.out.below hb)
  have Rd8 := Lib.hid (Rd7.out.below hb)
  have Rm8 := Lib.hid (Rm7.out.below hb)
  have Rx8 := Lib.hid (Rx7.out.below hb)
  clear hb Ra7 Rb7 Rc7 Rd7 Rm7 Rx7
  go_wp2_with fail
  refine (same_rows _ (by have := words_le line; have := HL.out; omega) Rc8.out Rx8.out).mono ?_
  rintro x w9 ⟨rfl, hb⟩
  have HB9 := Lib.hid hb
  have Ra9 := Lib.hid (Ra8.out.below hb)
  have Rb9 := Lib.hid (Rb8.out.below hb)
  have Rc9 := Lib.hid (Rc8.out.below hb)
  have Rd9 := Lib.hid (Rd8.out.below hb)
  have Rm9 := Lib.hid (Rm8.out.below hb)
  have Rx9 := Lib.hid (Rx8.out.below hb)
  clear hb Ra8 Rb8 Rc8 Rd8 Rm8 Rx8
  go_wp2_with fail
  refine (same_rows _ (by have := words_le line; have := HL.out; omega) Rd9.out Rx9.out).mono ?_
  rintro x w10 ⟨rfl, hb⟩
  have HB10 := Lib.hid hb
  have Ra10 := Lib.hid (Ra9.out.below hb)
  have Rb10 := Lib.hid (Rb9.out.below hb)
  have Rc10 := Lib.hid (Rc9.out.below hb)
  have Rd10 := Lib.hid (Rd9.out.below hb)
  have Rm10 := Lib.hid (Rm9.out.below hb)
  have Rx10 := Lib.hid (Rx9.out.below hb)
  clear hb Ra9 Rb9 Rc9 Rd9 Rm9 Rx9
  have HSZ := Lib.hid (show w.heap.size ≤ w1.heap.size ∧ w1.heap.size ≤ w2.heap.size ∧ w2.heap.size ≤ w3.heap.size ∧ w3.heap.size ≤ w4.heap.size ∧ w4.heap.size ≤ w10.heap.size from ⟨HB1.out.size, HB2.out.size, HB3.out.size, HB4.out.size, by have := HB5.out.size; have := HB6.out.size; have := HB7.out.size; have := HB8.out.size; have := HB9.out.size; have := HB10.out.size; omega⟩)
  have hbb : Below w.heap.size w w10 := (((((((((HB1.out.trans (HB2.out.mono (by have := HB1.out.size; omega))).trans (HB3.out.mono (by have := HSZ.out; omega))).trans (HB4.out.mono (by have := HSZ.out; omega))).trans (HB5.out.mono (by have := HSZ.out; omega))).trans (HB6.out.mono (by have := HSZ.out; have := HB5.out.size; omega))).trans (HB7.out.mono (by have := HSZ.out; have := HB5.out.size; have := HB6.out.size; omega))).trans (HB8.out.mono (by have := HSZ.out; have := HB5.out.size; have := HB6.out.size; have := HB7.out.size; omega))).trans (HB9.out.mono (by have := HSZ.out; have := HB5.out.size; have := HB6.out.size; have := HB7.out.size; have := HB8.out.size; omega))).trans (HB10.out.mono (by have := HSZ.out; have := HB5.out.size; have := HB6.out.size; have := HB7.out.size; have := HB8.out.size; have := HB9.out.size; omega)))
  have HBB := Lib.hid hbb
  clear hbb HB1 HB2 HB3 HB4 HB5 HB6 HB7 HB8 HB9 HB10 Rm10 Rx10
  obtain ⟨Aa, ca, na, hsa⟩ : ∃ A c n, va = .slice A n c := by obtain ⟨A, c, h⟩ := Ra10.out.shape; exact ⟨A, c, _, h⟩
  obtain ⟨Ab, cb, nb, hsb⟩ : ∃ A c n, vb = .slice A n c := by obtain ⟨A, c, h⟩ := Rb10.out.shape; exact ⟨A, c, _, h⟩
  obtain ⟨Ac, cc, nc, hsc⟩ : ∃ A c n, vc = .slice A n c := by obtain ⟨A, c, h⟩ := Rc10.out.shape; exact ⟨A, c, _, h⟩
  obtain ⟨Ad, cd, nd, hsd⟩ : ∃ A c n, vd = .slice A n c := by obtain ⟨A, c, h⟩ := Rd10.out.shape; exact ⟨A, c, _, h⟩
  subst hsa hsb hsc hsd
  obtain ⟨va, hva⟩ : ∃ v, v = Value.slice Aa na ca := ⟨_, rfl⟩
  obtain ⟨vb, hvb⟩ : ∃ v, v = Value.slice Ab nb cb := ⟨_, rfl⟩
  obtain ⟨vc, hvc⟩ : ∃ v, v = Value.slice Ac nc cc := ⟨_, rfl⟩
  obtain ⟨vd, hvd⟩ : ∃ v, v = Value.slice Ad nd cd := ⟨_, rfl⟩
  rw [← hva] at Ra10
  rw [← hvb] at Rb10
  rw [← hvc] at Rc10
  rw [← hvd] at Rd10
  obtain ⟨W, hW⟩ : ∃ W, W = w10.alloc (.cells #[va, vb, vc, vd] 23) := ⟨_, rfl⟩
  have hnews := (MapKept.heap_alloc w10 (.cells #[va, vb, vc, vd] 23)).1
  rw [← hW] at hnews
  have hWs : W.heap.size = w10.heap.size + 1 := by rw [hW]; simp
  have HF := Lib.hid (show ∃ (bnd : Nat → Nat) (uf : Nat → Value) (lf : Nat → List ByteArray), Many W 4 uf lf (fun k b => bnd k ≤ b ∧ b < bnd (k + 1)) ∧ (∀ k, bnd k ≤ bnd (k + 1)) ∧ (∀ k, w.heap.size ≤ bnd k ∧ bnd k ≤ w10.heap.size) ∧ (∀ k, (lf k).length ≤ 1000000000) ∧ Out W (.slice (some ⟨w10.heap.size, 0, none⟩) 4 4) 4 uf (fun b => b = w10.heap.size) from by
    have hk : Below w10.heap.size w10 W := by rw [hW]; exact (Below.refl _ _).alloc (Nat.le_refl _) _
    have hsz := HSZ.out
    refine ⟨fun k => if k = 0 then w.heap.size else if k = 1 then w1.heap.size else if k = 2 then w2.heap.size else if k = 3 then w3.heap.size else w4.heap.size, fun k => if k = 0 then va else if k = 1 then vb else if k = 2 then vc else vd, fun k => if k < 2 then (linesOf s).1 else (wordsOf line).1, ⟨fun k hk4 => ?_⟩, fun k => ?_, fun k => ?_, fun k => ?_, ?_⟩
    · match k, hk4 with
      | 0, _ => exact Ra10.out.below hk
      | 1, _ => exact Rb10.out.below hk
      | 2, _ => exact Rc10.out.below hk
      | 3, _ => exact Rd10.out.below hk
    · match k with
      | 0 => exact hsz.1
      | 1 => exact hsz.2.1
      | 2 => exact hsz.2.2.1
      | 3 => exact hsz.2.2.2.1
      | k + 4 => exact Nat.le_refl _
    · dsimp only
      repeat' split
      all_goals omega
    · have h1 := lines_le s
      have h2 := words_le line
      have h3 := HS.out
      have h4 := HL.out
      dsimp only
      split <;> omega
    · refine ⟨_, _, rfl, fun _ => ⟨w10.heap.size, 0, rfl, by omega, rfl, fun i hi => ?_⟩⟩
      rw [Nat.zero_add]
      match i, hi with
      | 0, _ => exact cell_of_block hnews (by show 0 < 4; decide)
      | 1, _ => exact cell_of_block hnews (by show 1 < 4; decide)
      | 2, _ => exact cell_of_block hnews (by show 2 < 4; decide)
      | 3, _ => exact cell_of_block hnews (by show 3 < 4; decide))
  have HWB := Lib.hid (show Below w.heap.size w W from by rw [hW]; exact HBB.out.alloc HBB.out.size _)
  have HWS := Lib.hid hWs
  clear hnews hWs Ra10 Rb10 Rc10 Rd10
  obtain ⟨bnd, uf, lf, q1, q2, q3, q4, q5⟩ := HF.out
  have Q1 := Lib.hid q1
  have Q2 := Lib.hid q2
  have Q3 := Lib.hid q3
  have Q4 := Lib.hid q4
  have Q5 := Lib.hid q5
  clear q1 q2 q3 q4 q5 HF
  rw [hva, hvb, hvc, hvd] at hW
  clear hva hvb hvc hvd
  go_wp2_with fail
  rw [← hW]
  clear hW
  refine (apart_calls 4 uf lf _ (fun b => b = w10.heap.size) _ W w.heap.size Q5.out (by decide) Q4.out Q1.out (fun i j b h h1 => ranges_apart bnd Q2.out h h1) (fun k b h h1 => by have := (Q3.out (k + 1)).2; omega) (fun k b h => by have := (Q3.out k).1; have := (Q3.out (k + 1)).2; have := HWS.out; omega) (fun b h => by have := HWS.out; omega) HWB.out.size).mono ?_
  rintro x w11 ⟨rfl, hb⟩
  have HBE := Lib.hid (HWB.out.trans hb)
  clear hb
  go_wp2
  go_ret
  exact ⟨rfl, HBE.out⟩
end Go.Proofs.Ytaghjiffmondjaa
