/-
  the law TextFresh, walked.
-/
import Derived.Test.YtaghjiffmondjaaF4
set_option linter.unusedVariables false
set_option linter.unusedSimpArgs false
namespace Go.Proofs.Ytaghjiffmondjaa
open Go.RowKit


theorem View.below {w w' : World} {v : Value} {us : List Value} {F : Nat → Prop} (h : View w v us F) (hb : Below w.heap.size w w') : View w' v us F := h.keepc hb.size fun b o hl _ _ => hb.cell (p := ⟨b, o, none⟩) hl
set_option maxHeartbeats 8000000 in
set_option maxRecDepth 100000 in
theorem fresh_calls (s line : ByteArray) (hs : s.size ≤ 1048576) (hl : line.size ≤ 1048576) (w : World) :
    Calls Try.prog 10 #[.string s, .string line] w fun r w' => r = .returned (.bool true) ∧ Below w.heap.size w w' := by
  obtain ⟨i9, hi9, hz0, hz1, hz2⟩ := info_parts info9'
  have HS := Lib.hid hs
  have HL := Lib.hid hl
  have HB0 := Lib.hid (Below.refl w.heap.size w)
  clear hs hl
  go_enter Try.func10, Try.ntmps10
  go_wp2_with fail
  refine (lines_row s HS.out w).mono ?_
  rintro x w1 ⟨va, rfl, hr, hb⟩
  have HB1 := Lib.hid (HB0.out.trans (hb.mono HB0.out.size))
  have HZ1 := Lib.hid (show w.heap.size ≤ w1.heap.size from hb.size)
  clear HB0 
  have Ra1 := Lib.hid hr
  clear hr hb
  go_wp2_with fail
  refine (words_row line HL.out w1).mono ?_
  rintro x w2 ⟨vb, rfl, hr, hb⟩
  have Ra2 := Lib.hid (Ra1.out.below hb)
  have HB2 := Lib.hid (HB1.out.trans (hb.mono HB1.out.size))
  have HZ2 := Lib.hid (show w1.heap.size ≤ w2.heap.size from hb.size)
  clear HB1 Ra1
  have Rb2 := Lib.hid hr
  clear hr hb
  go_wp2_with fail
  refine (lines_row s HS.out w2).mono ?_
  rintro x w3 ⟨vc, rfl, hr, hb⟩
  have Ra3 := Lib.hid (Ra2.out.below hb)
  have Rb3 := Lib.hid (Rb2.out.below hb)
  have HB3 := Lib.hid (HB2.out.trans (hb.mono HB2.out.size))
  have HZ3 := Lib.hid (show w2.heap.size ≤ w3.heap.size from hb.size)
  clear HB2 Ra2 Rb2
  have Rc3 := Lib.hid hr
  clear hr hb
  go_wp2_with fail
  refine (rlines_row s HS.out w3).mono ?_
  rintro x w4 ⟨vm, rfl, hr, hb⟩
  have Ra4 := Lib.hid (Ra3.out.below hb)
  have Rb4 := Lib.hid (Rb3.out.below hb)
  have Rc4 := Lib.hid (Rc3.out.below hb)
  have HB4 := Lib.hid (HB3.out.trans (hb.mono HB3.out.size))
  have HZ4 := Lib.hid (show w3.heap.size ≤ w4.heap.size from hb.size)
  clear HB3 Ra3 Rb3 Rc3
  have Rm4 := Lib.hid hr
  clear hr hb
  go_wp2_with fail
  refine (rwords_row line HL.out w4).mono ?_
  rintro x w5 ⟨vx, rfl, hr, hb⟩
  have Ra5 := Lib.hid (Ra4.out.below hb)
  have Rb5 := Lib.hid (Rb4.out.below hb)
  have Rc5 := Lib.hid (Rc4.out.below hb)
  have Rm5 := Lib.hid (Rm4.out.below hb)
  have HB5 := Lib.hid (HB4.out.trans (hb.mono HB4.out.size))
  have HZ5 := Lib.hid (show w4.heap.size ≤ w5.heap.size from hb.size)
  clear HB4 Ra4 Rb4 Rc4 Rm4
  have Rx5 := Lib.hid hr
  clear hr hb
  go_wp2_with fail
  refine (same_rows _ (by have := lines_le s; have := HS.out; omega) Ra5.out Rm5.out).mono ?_
  rintro x w6 ⟨rfl, hb⟩
  have Ra6 := Lib.hid (Ra5.out.below hb)
  have Rb6 := Lib.hid (Rb5.out.below hb)
  have Rc6 := Lib.hid (Rc5.out.below hb)
  have Rm6 := Lib.hid (Rm5.out.below hb)
  have Rx6 := Lib.hid (Rx5.out.below hb)
  have HB6 := Lib.hid (HB5.out.trans (hb.mono HB5.out.size))
  have HZ6 := Lib.hid (show w5.heap.size ≤ w6.heap.size from hb.size)
  clear HB5 Ra5 Rb5 Rc5 Rm5 Rx5
  clear hb
  go_wp2_with fail
  refine (same_rows _ (by have := words_le line; have := HL.out; omega) Rb6.out Rx6.out).mono ?_
  rintro x w7 ⟨rfl, hb⟩
  have Ra7 := Lib.hid (Ra6.out.below hb)
  have Rb7 := Lib.hid (Rb6.out.below hb)
  have Rc7 := Lib.hid (Rc6.out.below hb)
  have Rm7 := Lib.hid (Rm6.out.below hb)
  have Rx7 := Lib.hid (Rx6.out.below hb)
  have HB7 := Lib.hid (HB6.out.trans (hb.mono HB6.out.size))
  have HZ7 := Lib.hid (show w6.heap.size ≤ w7.heap.size from hb.size)
  clear HB6 Ra6 Rb6 Rc6 Rm6 Rx6
  clear hb
  go_wp2_with fail
  refine (same_rows _ (by have := lines_le s; have := HS.out; omega) Rc7.out Rm7.out).mono ?_
  rintro x w8 ⟨rfl, hb⟩
  have Ra8 := Lib.hid (Ra7.out.below hb)
  have Rb8 := Lib.hid (Rb7.out.below hb)
  have Rc8 := Lib.hid (Rc7.out.below hb)
  have Rm8 := Lib.hid (Rm7.out.below hb)
  have Rx8 := Lib.hid (Rx7.out.below hb)
  have HB8 := Lib.hid (HB7.out.trans (hb.mono HB7.out.size))
  have HZ8 := Lib.hid (show w7.heap.size ≤ w8.heap.size from hb.size)
  clear HB7 Ra7 Rb7 Rc7 Rm7 Rx7
  clear hb
  have HSZ := Lib.hid (show w.heap.size ≤ w1.heap.size ∧ w1.heap.size ≤ w2.heap.size ∧ w2.heap.size ≤ w3.heap.size ∧ w3.heap.size ≤ w4.heap.size ∧ w4.heap.size ≤ w5.heap.size ∧ w5.heap.size ≤ w8.heap.size from ⟨HZ1.out, HZ2.out, HZ3.out, HZ4.out, HZ5.out, by have := HZ6.out; have := HZ7.out; have := HZ8.out; omega⟩)
  clear HZ1 HZ2 HZ3 HZ4 HZ5 HZ6 HZ7 HZ8
  obtain ⟨Xa, hXa⟩ : ∃ X, X = (linesOf s).1 := ⟨_, rfl⟩
  have HXa := Lib.hid hXa
  have HYa := Lib.hid (show Xa.length ≤ 2000000 by rw [hXa]; exact (by have := lines_le s; have := HS.out; omega))
  have RXa := Lib.hid (show Row 9 w8 va (Xa.map Value.string) (Fresh w w1) by rw [hXa]; exact Ra8.out)
  clear hXa Ra8
  obtain ⟨Aa, ca, hsha⟩ := RXa.out.shape
  rw [List.length_map] at hsha
  subst hsha
  have Ra8 := RXa
  clear RXa
  obtain ⟨Xb, hXb⟩ : ∃ X, X = (wordsOf line).1 := ⟨_, rfl⟩
  have HXb := Lib.hid hXb
  have HYb := Lib.hid (show Xb.length ≤ 2000000 by rw [hXb]; exact (by have := words_le line; have := HL.out; omega))
  have RXb := Lib.hid (show Row 9 w8 vb (Xb.map Value.string) (Fresh w1 w2) by rw [hXb]; exact Rb8.out)
  clear hXb Rb8
  obtain ⟨Ab, cb, hshb⟩ := RXb.out.shape
  rw [List.length_map] at hshb
  subst hshb
  have Rb8 := RXb
  clear RXb
  obtain ⟨Xc, hXc⟩ : ∃ X, X = (linesOf s).1 := ⟨_, rfl⟩
  have HXc := Lib.hid hXc
  have HYc := Lib.hid (show Xc.length ≤ 2000000 by rw [hXc]; exact (by have := lines_le s; have := HS.out; omega))
  have RXc := Lib.hid (show Row 9 w8 vc (Xc.map Value.string) (Fresh w2 w3) by rw [hXc]; exact Rc8.out)
  clear hXc Rc8
  obtain ⟨Ac, cc, hshc⟩ := RXc.out.shape
  rw [List.length_map] at hshc
  subst hshc
  have Rc8 := RXc
  clear RXc
  have hY : Xa.length ≤ 2000000 := HYa.out
  go_wp2
  obtain ⟨wz, hwz⟩ : ∃ wz, wz = w8 := ⟨_, rfl⟩
  have HWZ := Lib.hid hwz
  have hT0 : Hid (Turn (Fresh w w1) wz w8) := Lib.hid (hwz ▸ Turn.refl _ _)
  have hR0 : Hid (Row 9 w8 (.slice Aa Xa.length ca) ((List.replicate 0 (⟨#[111, 110, 101]⟩ : ByteArray) ++ Xa.drop 0).map Value.string) (Fresh w w1)) := Lib.hid (by simpa using Ra8.out)
  clear hwz
  go_loopw [18] (fun iv wr => ∃ i : Nat, iv = .int .i64 i ∧ i ≤ Xa.length ∧ Hid (Row 9 wr (.slice Aa Xa.length ca) ((List.replicate i (⟨#[111, 110, 101]⟩ : ByteArray) ++ Xa.drop i).map Value.string) (Fresh w w1)) ∧ Hid (Turn (Fresh w w1) wz wr)) (fun iv _ => Xa.length - (intOf iv).toNat)
  case atStart => exact ⟨0, rfl, by omega, hR0, hT0⟩
  case round =>
    clear hT0 hR0
    obtain ⟨i, rfl, hi, HR, HT⟩ := hrel
    by_cases hlt : i < Xa.length
    · have hlen : ((List.replicate i (⟨#[111, 110, 101]⟩ : ByteArray) ++ Xa.drop i).map Value.string).length = Xa.length := by simp; omega
      obtain ⟨g, cap, q1, q2, q3, q4, q5, q6⟩ := HR.out.place (i := i) (by rw [hlen]; exact hlt)
      injection q1 with q1 q0 q1'; clear q0
      subst q1 q1'
      have HQ6 := Lib.hid (q6 (.string ⟨#[111, 110, 101]⟩))
      have HQ2 := Lib.hid q2
      have hset := rep_set i ⟨#[111, 110, 101]⟩ Xa hlt
      have HSET := Lib.hid hset
      obtain ⟨u0, hu0⟩ : ∃ u, u = ((List.replicate i (⟨#[111, 110, 101]⟩ : ByteArray) ++ Xa.drop i).map Value.string)[i]'(by rw [hlen]; exact hlt) := ⟨_, rfl⟩
      rw [← hu0] at q4
      clear hlen q2 q3 q6 hset hu0
      go_wp2
      exact ⟨⟨i + 1, by go_num, by omega, Lib.hid (by have := HQ6.out.1; rw [HSET.out] at this; exact this), Lib.hid (HT.out.trans (HQ6.out.2.mono fun b e => .inl (e ▸ HQ2.out)))⟩, by simp [intOf]; omega⟩
    · obtain rfl : i = Xa.length := by omega
      have HRE := Lib.hid (show Row 9 wr (.slice Aa Xa.length ca) ((List.replicate Xa.length (⟨#[111, 110, 101]⟩ : ByteArray)).map Value.string) (Fresh w w1) from by have := HR.out; rwa [rep_end] at this)
      have HTw := Lib.hid (show Turn (Fresh w w1) w8 wr from HWZ.out ▸ HT.out)
      clear HR HT HWZ hY
      obtain ⟨w9, hw9⟩ : ∃ w', w' = wr := ⟨_, rfl⟩
      rw [← hw9] at HRE HTw ⊢
      clear hw9
      have Ra9 := HRE
      have Rb9 := Lib.hid (Rb8.out.turn HTw.out (fun b h1 h2 => by have := h1.1; have := h1.2; have := h2.1; have := h2.2; have := HSZ.out; omega))
      have Rc9 := Lib.hid (Rc8.out.turn HTw.out (fun b h1 h2 => by have := h1.1; have := h1.2; have := h2.1; have := h2.2; have := HSZ.out; omega))
      have Rm9 := Lib.hid (Rm8.out.turn HTw.out (fun b h1 h2 => by have := h1.1; have := h1.2; have := h2.1; have := h2.2; have := HSZ.out; omega))
      have Rx9 := Lib.hid (Rx8.out.turn HTw.out (fun b h1 h2 => by have := h1.1; have := h1.2; have := h2.1; have := h2.2; have := HSZ.out; omega))
      have HB9 := Lib.hid (HB8.out.trans (HTw.out.below (B := w.heap.size) (fun b h => by have := h.1; have := HSZ.out; omega) HB8.out.size))
      have HZ9 := Lib.hid (show w5.heap.size ≤ w9.heap.size by have := HTw.out.size; have := HSZ.out; omega)
      clear HRE HTw HB8 Ra8 Rb8 Rc8 Rm8 Rx8
      have hY : Xb.length ≤ 2000000 := HYb.out
      go_wp2
      obtain ⟨wz, hwz⟩ : ∃ wz, wz = w9 := ⟨_, rfl⟩
      have HWZ := Lib.hid hwz
      have hT0 : Hid (Turn (Fresh w1 w2) wz w9) := Lib.hid (hwz ▸ Turn.refl _ _)
      have hR0 : Hid (Row 9 w9 (.slice Ab Xb.length cb) ((List.replicate 0 (⟨#[116, 119, 111]⟩ : ByteArray) ++ Xb.drop 0).map Value.string) (Fresh w1 w2)) := Lib.hid (by simpa using Rb9.out)
      clear hwz
      go_loopw [19] (fun iv wr => ∃ i : Nat, iv = .int .i64 i ∧ i ≤ Xb.length ∧ Hid (Row 9 wr (.slice Ab Xb.length cb) ((List.replicate i (⟨#[116, 119, 111]⟩ : ByteArray) ++ Xb.drop i).map Value.string) (Fresh w1 w2)) ∧ Hid (Turn (Fresh w1 w2) wz wr)) (fun iv _ => Xb.length - (intOf iv).toNat)
      case atStart => exact ⟨0, rfl, by omega, hR0, hT0⟩
      case round =>
        clear hT0 hR0
        obtain ⟨i, rfl, hi, HR, HT⟩ := hrel
        by_cases hlt : i < Xb.length
        · have hlen : ((List.replicate i (⟨#[116, 119, 111]⟩ : ByteArray) ++ Xb.drop i).map Value.string).length = Xb.length := by simp; omega
          obtain ⟨g, cap, q1, q2, q3, q4, q5, q6⟩ := HR.out.place (i := i) (by rw [hlen]; exact hlt)
          injection q1 with q1 q0 q1'; clear q0
          subst q1 q1'
          have HQ6 := Lib.hid (q6 (.string ⟨#[116, 119, 111]⟩))
          have HQ2 := Lib.hid q2
          have hset := rep_set i ⟨#[116, 119, 111]⟩ Xb hlt
          have HSET := Lib.hid hset
          obtain ⟨u0, hu0⟩ : ∃ u, u = ((List.replicate i (⟨#[116, 119, 111]⟩ : ByteArray) ++ Xb.drop i).map Value.string)[i]'(by rw [hlen]; exact hlt) := ⟨_, rfl⟩
          rw [← hu0] at q4
          clear hlen q2 q3 q6 hset hu0
          go_wp2
          exact ⟨⟨i + 1, by go_num, by omega, Lib.hid (by have := HQ6.out.1; rw [HSET.out] at this; exact this), Lib.hid (HT.out.trans (HQ6.out.2.mono fun b e => .inl (e ▸ HQ2.out)))⟩, by simp [intOf]; omega⟩
        · obtain rfl : i = Xb.length := by omega
          have HRE := Lib.hid (show Row 9 wr (.slice Ab Xb.length cb) ((List.replicate Xb.length (⟨#[116, 119, 111]⟩ : ByteArray)).map Value.string) (Fresh w1 w2) from by have := HR.out; rwa [rep_end] at this)
          have HTw := Lib.hid (show Turn (Fresh w1 w2) w9 wr from HWZ.out ▸ HT.out)
          clear HR HT HWZ hY
          obtain ⟨w10, hw10⟩ : ∃ w', w' = wr := ⟨_, rfl⟩
          rw [← hw10] at HRE HTw ⊢
          clear hw10
          have Ra10 := Lib.hid (Ra9.out.turn HTw.out (fun b h1 h2 => by have := h1.1; have := h1.2; have := h2.1; have := h2.2; have := HSZ.out; omega))
          have Rb10 := HRE
          have Rc10 := Lib.hid (Rc9.out.turn HTw.out (fun b h1 h2 => by have := h1.1; have := h1.2; have := h2.1; have := h2.2; have := HSZ.out; omega))
          have Rm10 := Lib.hid (Rm9.out.turn HTw.out (fun b h1 h2 => by have := h1.1; have := h1.2; have := h2.1; have := h2.2; have := HSZ.out; omega))
          have Rx10 := Lib.hid (Rx9.out.turn HTw.out (fun b h1 h2 => by have := h1.1; have := h1.2; have := h2.1; have := h2.2; have := HSZ.out; omega))
          have HB10 := Lib.hid (HB9.out.trans (HTw.out.below (B := w.heap.size) (fun b h => by have := h.1; have := HSZ.out; omega) HB9.out.size))
          have HZ10 := Lib.hid (show w5.heap.size ≤ w10.heap.size by have := HTw.out.size; have := HZ9.out; omega)
          clear HRE HTw HB9 Ra9 Rb9 Rc9 Rm9 Rx9 HZ9
          have hY : Xc.length ≤ 2000000 := HYc.out
          go_wp2
          obtain ⟨wz, hwz⟩ : ∃ wz, wz = w10 := ⟨_, rfl⟩
          have HWZ := Lib.hid hwz
          have hT0 : Hid (Turn (Fresh w2 w3) wz w10) := Lib.hid (hwz ▸ Turn.refl _ _)
          have hR0 : Hid (Row 9 w10 (.slice Ac Xc.length cc) ((List.replicate 0 (⟨#[116, 104, 114, 101, 101]⟩ : ByteArray) ++ Xc.drop 0).map Value.string) (Fresh w2 w3)) := Lib.hid (by simpa using Rc10.out)
          clear hwz
          go_loopw [20] (fun iv wr => ∃ i : Nat, iv = .int .i64 i ∧ i ≤ Xc.length ∧ Hid (Row 9 wr (.slice Ac Xc.length cc) ((List.replicate i (⟨#[116, 104, 114, 101, 101]⟩ : ByteArray) ++ Xc.drop i).map Value.string) (Fresh w2 w3)) ∧ Hid (Turn (Fresh w2 w3) wz wr)) (fun iv _ => Xc.length - (intOf iv).toNat)
          case atStart => exact ⟨0, rfl, by omega, hR0, hT0⟩
          case round =>
            clear hT0 hR0
            obtain ⟨i, rfl, hi, HR, HT⟩ := hrel
            by_cases hlt : i < Xc.length
            · have hlen : ((List.replicate i (⟨#[116, 104, 114, 101, 101]⟩ : ByteArray) ++ Xc.drop i).map Value.string).length = Xc.length := by simp; omega
              obtain ⟨g, cap, q1, q2, q3, q4, q5, q6⟩ := HR.out.place (i := i) (by rw [hlen]; exact hlt)
              injection q1 with q1 q0 q1'; clear q0
              subst q1 q1'
              have HQ6 := Lib.hid (q6 (.string ⟨#[116, 104, 114, 101, 101]⟩))
              have HQ2 := Lib.hid q2
              have hset := rep_set i ⟨#[116, 104, 114, 101, 101]⟩ Xc hlt
              have HSET := Lib.hid hset
              obtain ⟨u0, hu0⟩ : ∃ u, u = ((List.replicate i (⟨#[116, 104, 114, 101, 101]⟩ : ByteArray) ++ Xc.drop i).map Value.string)[i]'(by rw [hlen]; exact hlt) := ⟨_, rfl⟩
              rw [← hu0] at q4
              clear hlen q2 q3 q6 hset hu0
              go_wp2
              exact ⟨⟨i + 1, by go_num, by omega, Lib.hid (by have := HQ6.out.1; rw [HSET.out] at this; exact this), Lib.hid (HT.out.trans (HQ6.out.2.mono fun b e => .inl (e ▸ HQ2.out)))⟩, by simp [intOf]; omega⟩
            · obtain rfl : i = Xc.length := by omega
              have HRE := Lib.hid (show Row 9 wr (.slice Ac Xc.length cc) ((List.replicate Xc.length (⟨#[116, 104, 114, 101, 101]⟩ : ByteArray)).map Value.string) (Fresh w2 w3) from by have := HR.out; rwa [rep_end] at this)
              have HTw := Lib.hid (show Turn (Fresh w2 w3) w10 wr from HWZ.out ▸ HT.out)
              clear HR HT HWZ hY
              obtain ⟨w11, hw11⟩ : ∃ w', w' = wr := ⟨_, rfl⟩
              rw [← hw11] at HRE HTw ⊢
              clear hw11
              have Ra11 := Lib.hid (Ra10.out.turn HTw.out (fun b h1 h2 => by have := h1.1; have := h1.2; have := h2.1; have := h2.2; have := HSZ.out; omega))
              have Rb11 := Lib.hid (Rb10.out.turn HTw.out (fun b h1 h2 => by have := h1.1; have := h1.2; have := h2.1; have := h2.2; have := HSZ.out; omega))
              have Rc11 := HRE
              have Rm11 := Lib.hid (Rm10.out.turn HTw.out (fun b h1 h2 => by have := h1.1; have := h1.2; have := h2.1; have := h2.2; have := HSZ.out; omega))
              have Rx11 := Lib.hid (Rx10.out.turn HTw.out (fun b h1 h2 => by have := h1.1; have := h1.2; have := h2.1; have := h2.2; have := HSZ.out; omega))
              have HB11 := Lib.hid (HB10.out.trans (HTw.out.below (B := w.heap.size) (fun b h => by have := h.1; have := HSZ.out; omega) HB10.out.size))
              have HZ11 := Lib.hid (show w5.heap.size ≤ w11.heap.size by have := HTw.out.size; have := HZ10.out; omega)
              clear HRE HTw HB10 Ra10 Rb10 Rc10 Rm10 Rx10 HZ10
              have hlx : (List.map Value.string (List.replicate Xa.length (⟨#[111, 110, 101]⟩ : ByteArray))).length = Xa.length := by simp
              have HLX := Lib.hid hlx
              have hY : Xa.length ≤ 2000000 := HYa.out
              clear hlx
              go_wp2_with (at_builtin; go_must (refine wpList_append_row (F := Fresh w w1) (news := [Value.string ⟨#[111, 110, 101]⟩, Value.string ⟨#[111, 110, 101]⟩, Value.string ⟨#[111, 110, 101]⟩, Value.string ⟨#[111, 110, 101]⟩]) rfl (.tmp 103) (.tmp 104) rfl i9 (.string ⟨#[]⟩) 16 Try.underlying23 hi9 hz0 hz1 hz2 rfl rfl (Ra11.out.alloc _) ⟨w11.heap.size, 0, none⟩ 4 4 rfl rfl (World.news_of_block (MapKept.heap_alloc _ _).1) (by intro u hu; simp at hu; subst hu; rfl) (by decide) (by rw [HLX.out]; unfold maxLen; omega) (by rw [HLX.out]; omega) ?_))
              intro vp w12 hr3 ht3 hc3
              have HTw := Lib.hid (((Turn.refl (Fresh w w1) w11).alloc _).trans ht3)
              have Ra12 := Lib.hid ((show View w11 _ _ _ from Ra11.out.view).keepc HTw.out.size fun b o hb hF ho => (hc3 b o (by (try simp); omega) (fun _ => by simpa using ho)).trans (((Turn.refl (fun _ => False) w11).alloc _).cell (p := ⟨b, o, none⟩) hb (fun h => h)))
              have Rb12 := Lib.hid (Rb11.out.turn HTw.out (fun b h1 h2 => by have := h1.1; have := h1.2; have := h2.1; have := h2.2; have := HSZ.out; omega))
              have Rc12 := Lib.hid (Rc11.out.turn HTw.out (fun b h1 h2 => by have := h1.1; have := h1.2; have := h2.1; have := h2.2; have := HSZ.out; omega))
              have Rm12 := Lib.hid (Rm11.out.turn HTw.out (fun b h1 h2 => by have := h1.1; have := h1.2; have := h2.1; have := h2.2; have := HSZ.out; omega))
              have Rx12 := Lib.hid (Rx11.out.turn HTw.out (fun b h1 h2 => by have := h1.1; have := h1.2; have := h2.1; have := h2.2; have := HSZ.out; omega))
              have HZZ := Lib.hid (show w11.heap.size ≤ w12.heap.size from HTw.out.size)
              have Rp12 := Lib.hid (show Row 9 w12 vp ((List.replicate (Xa.length + 4) (⟨#[111, 110, 101]⟩ : ByteArray)).map Value.string) (fun b => Fresh w w1 b ∨ w5.heap.size ≤ b) from by
                have e : (List.replicate (Xa.length + 4) (⟨#[111, 110, 101]⟩ : ByteArray)).map Value.string = List.replicate Xa.length (Value.string ⟨#[111, 110, 101]⟩) ++ [Value.string ⟨#[111, 110, 101]⟩, Value.string ⟨#[111, 110, 101]⟩, Value.string ⟨#[111, 110, 101]⟩, Value.string ⟨#[111, 110, 101]⟩] := by rw [List.map_replicate, ← List.replicate_append_replicate]; rfl
                rw [e]
                refine Row.mono (show Row 9 w12 vp (List.replicate Xa.length (Value.string ⟨#[111, 110, 101]⟩) ++ [Value.string ⟨#[111, 110, 101]⟩, Value.string ⟨#[111, 110, 101]⟩, Value.string ⟨#[111, 110, 101]⟩, Value.string ⟨#[111, 110, 101]⟩]) (fun b => Fresh w w1 b ∨ w11.heap.size + 1 ≤ b) from by first | exact hr3 | simpa using hr3) fun b _ h => h.elim .inl (fun h => .inr (by have := HZ11.out; omega)))
              have HB12 := Lib.hid (HB11.out.trans (HTw.out.below (B := w.heap.size) (fun b h => by have := h.1; have := HSZ.out; omega) HB11.out.size))
              have HZ12 := Lib.hid (show w5.heap.size ≤ w12.heap.size by have := HTw.out.size; have := HZ11.out; omega)
              clear hr3 ht3 hc3 hY HLX HTw HZZ HB11 HZ11 Ra11 Rb11 Rc11 Rm11 Rx11
              have hlx : (List.map Value.string (List.replicate Xb.length (⟨#[116, 119, 111]⟩ : ByteArray))).length = Xb.length := by simp
              have HLX := Lib.hid hlx
              have hY : Xb.length ≤ 2000000 := HYb.out
              clear hlx
              go_wp2_with (at_builtin; go_must (refine wpList_append_row (F := Fresh w1 w2) (news := [Value.string ⟨#[116, 119, 111]⟩, Value.string ⟨#[116, 119, 111]⟩, Value.string ⟨#[116, 119, 111]⟩, Value.string ⟨#[116, 119, 111]⟩]) rfl (.tmp 106) (.tmp 107) rfl i9 (.string ⟨#[]⟩) 16 Try.underlying23 hi9 hz0 hz1 hz2 rfl rfl (Rb12.out.alloc _) ⟨w12.heap.size, 0, none⟩ 4 4 rfl rfl (World.news_of_block (MapKept.heap_alloc _ _).1) (by intro u hu; simp at hu; subst hu; rfl) (by decide) (by rw [HLX.out]; unfold maxLen; omega) (by rw [HLX.out]; omega) ?_))
              intro vq w13 hr3 ht3 hc3
              have HTw := Lib.hid (((Turn.refl (Fresh w1 w2) w12).alloc _).trans ht3)
              have Ra13 := Lib.hid (Ra12.out.turn HTw.out (fun b _ h1 h2 => by have := h1.1; have := h1.2; have := h2.1; have := h2.2; have := HSZ.out; omega))
              have Rb13 := Lib.hid ((show View w12 _ _ _ from Rb12.out.view).keepc HTw.out.size fun b o hb hF ho => (hc3 b o (by (try simp); omega) (fun _ => by simpa using ho)).trans (((Turn.refl (fun _ => False) w12).alloc _).cell (p := ⟨b, o, none⟩) hb (fun h => h)))
              have Rc13 := Lib.hid (Rc12.out.turn HTw.out (fun b h1 h2 => by have := h1.1; have := h1.2; have := h2.1; have := h2.2; have := HSZ.out; omega))
              have Rm13 := Lib.hid (Rm12.out.turn HTw.out (fun b h1 h2 => by have := h1.1; have := h1.2; have := h2.1; have := h2.2; have := HSZ.out; omega))
              have Rx13 := Lib.hid (Rx12.out.turn HTw.out (fun b h1 h2 => by have := h1.1; have := h1.2; have := h2.1; have := h2.2; have := HSZ.out; omega))
              have Rp13 := Lib.hid (Rp12.out.turn HTw.out (fun b h1 h2 => by have h4 := h2.1; have h5 := h2.2; have h6 := HSZ.out; (rcases h1 with h3 | h3); (have h8 := h3.1; have h9 := h3.2; omega); omega))
              have HZZ := Lib.hid (show w12.heap.size ≤ w13.heap.size from HTw.out.size)
              have Rq13 := Lib.hid (show Row 9 w13 vq ((List.replicate (Xb.length + 4) (⟨#[116, 119, 111]⟩ : ByteArray)).map Value.string) (fun b => Fresh w1 w2 b ∨ w5.heap.size ≤ b) from by
                have e : (List.replicate (Xb.length + 4) (⟨#[116, 119, 111]⟩ : ByteArray)).map Value.string = List.replicate Xb.length (Value.string ⟨#[116, 119, 111]⟩) ++ [Value.string ⟨#[116, 119, 111]⟩, Value.string ⟨#[116, 119, 111]⟩, Value.string ⟨#[116, 119, 111]⟩, Value.string ⟨#[116, 119, 111]⟩] := by rw [List.map_replicate, ← List.replicate_append_replicate]; rfl
                rw [e]
                refine Row.mono (show Row 9 w13 vq (List.replicate Xb.length (Value.string ⟨#[116, 119, 111]⟩) ++ [Value.string ⟨#[116, 119, 111]⟩, Value.string ⟨#[116, 119, 111]⟩, Value.string ⟨#[116, 119, 111]⟩, Value.string ⟨#[116, 119, 111]⟩]) (fun b => Fresh w1 w2 b ∨ w12.heap.size + 1 ≤ b) from by first | exact hr3 | simpa using hr3) fun b _ h => h.elim .inl (fun h => .inr (by have := HZ12.out; omega)))
              have HB13 := Lib.hid (HB12.out.trans (HTw.out.below (B := w.heap.size) (fun b h => by have := h.1; have := HSZ.out; omega) HB12.out.size))
              have HZ13 := Lib.hid (show w5.heap.size ≤ w13.heap.size by have := HTw.out.size; have := HZ12.out; omega)
              clear hr3 ht3 hc3 hY HLX HTw HZZ HB12 HZ12 Ra12 Rb12 Rc12 Rm12 Rx12 Rp12
              have hlx : (List.map Value.string (List.replicate Xc.length (⟨#[116, 104, 114, 101, 101]⟩ : ByteArray))).length = Xc.length := by simp
              have HLX := Lib.hid hlx
              have hY : Xc.length ≤ 2000000 := HYc.out
              clear hlx
              go_wp2_with (at_builtin; go_must (refine wpList_append_row (F := Fresh w2 w3) (news := [Value.string ⟨#[116, 104, 114, 101, 101]⟩, Value.string ⟨#[116, 104, 114, 101, 101]⟩, Value.string ⟨#[116, 104, 114, 101, 101]⟩, Value.string ⟨#[116, 104, 114, 101, 101]⟩]) rfl (.tmp 109) (.tmp 110) rfl i9 (.string ⟨#[]⟩) 16 Try.underlying23 hi9 hz0 hz1 hz2 rfl rfl (Rc13.out.alloc _) ⟨w13.heap.size, 0, none⟩ 4 4 rfl rfl (World.news_of_block (MapKept.heap_alloc _ _).1) (by intro u hu; simp at hu; subst hu; rfl) (by decide) (by rw [HLX.out]; unfold maxLen; omega) (by rw [HLX.out]; omega) ?_))
              intro vr w14 hr3 ht3 hc3
              have HTw := Lib.hid (((Turn.refl (Fresh w2 w3) w13).alloc _).trans ht3)
              have Ra14 := Lib.hid (Ra13.out.turn HTw.out (fun b _ h1 h2 => by have := h1.1; have := h1.2; have := h2.1; have := h2.2; have := HSZ.out; omega))
              have Rb14 := Lib.hid (Rb13.out.turn HTw.out (fun b _ h1 h2 => by have := h1.1; have := h1.2; have := h2.1; have := h2.2; have := HSZ.out; omega))
              have Rc14 := Lib.hid ((show View w13 _ _ _ from Rc13.out.view).keepc HTw.out.size fun b o hb hF ho => (hc3 b o (by (try simp); omega) (fun _ => by simpa using ho)).trans (((Turn.refl (fun _ => False) w13).alloc _).cell (p := ⟨b, o, none⟩) hb (fun h => h)))
              have Rm14 := Lib.hid (Rm13.out.turn HTw.out (fun b h1 h2 => by have := h1.1; have := h1.2; have := h2.1; have := h2.2; have := HSZ.out; omega))
              have Rx14 := Lib.hid (Rx13.out.turn HTw.out (fun b h1 h2 => by have := h1.1; have := h1.2; have := h2.1; have := h2.2; have := HSZ.out; omega))
              have Rp14 := Lib.hid (Rp13.out.turn HTw.out (fun b h1 h2 => by have h4 := h2.1; have h5 := h2.2; have h6 := HSZ.out; (rcases h1 with h3 | h3); (have h8 := h3.1; have h9 := h3.2; omega); omega))
              have Rq14 := Lib.hid (Rq13.out.turn HTw.out (fun b h1 h2 => by have h4 := h2.1; have h5 := h2.2; have h6 := HSZ.out; (rcases h1 with h3 | h3); (have h8 := h3.1; have h9 := h3.2; omega); omega))
              have HZZ := Lib.hid (show w13.heap.size ≤ w14.heap.size from HTw.out.size)
              have Rr14 := Lib.hid (show Row 9 w14 vr ((List.replicate (Xc.length + 4) (⟨#[116, 104, 114, 101, 101]⟩ : ByteArray)).map Value.string) (fun b => Fresh w2 w3 b ∨ w5.heap.size ≤ b) from by
                have e : (List.replicate (Xc.length + 4) (⟨#[116, 104, 114, 101, 101]⟩ : ByteArray)).map Value.string = List.replicate Xc.length (Value.string ⟨#[116, 104, 114, 101, 101]⟩) ++ [Value.string ⟨#[116, 104, 114, 101, 101]⟩, Value.string ⟨#[116, 104, 114, 101, 101]⟩, Value.string ⟨#[116, 104, 114, 101, 101]⟩, Value.string ⟨#[116, 104, 114, 101, 101]⟩] := by rw [List.map_replicate, ← List.replicate_append_replicate]; rfl
                rw [e]
                refine Row.mono (show Row 9 w14 vr (List.replicate Xc.length (Value.string ⟨#[116, 104, 114, 101, 101]⟩) ++ [Value.string ⟨#[116, 104, 114, 101, 101]⟩, Value.string ⟨#[116, 104, 114, 101, 101]⟩, Value.string ⟨#[116, 104, 114, 101, 101]⟩, Value.string ⟨#[116, 104, 114, 101, 101]⟩]) (fun b => Fresh w2 w3 b ∨ w13.heap.size + 1 ≤ b) from by first | exact hr3 | simpa using hr3) fun b _ h => h.elim .inl (fun h => .inr (by have := HZ13.out; omega)))
              have HB14 := Lib.hid (HB13.out.trans (HTw.out.below (B := w.heap.size) (fun b h => by have := h.1; have := HSZ.out; omega) HB13.out.size))
              have HZ14 := Lib.hid (show w5.heap.size ≤ w14.heap.size by have := HTw.out.size; have := HZ13.out; omega)
              clear hr3 ht3 hc3 hY HLX HTw HZZ HB13 HZ13 Ra13 Rb13 Rc13 Rm13 Rx13 Rp13 Rq13
              go_wp2_with fail
              refine (lines_row s HS.out w14).mono ?_
              rintro x w15 ⟨vl, rfl, hr, hb⟩
              have Ra15 := Lib.hid (Ra14.out.below hb)
              have Rb15 := Lib.hid (Rb14.out.below hb)
              have Rc15 := Lib.hid (Rc14.out.below hb)
              have Rm15 := Lib.hid (Rm14.out.below hb)
              have Rx15 := Lib.hid (Rx14.out.below hb)
              have Rp15 := Lib.hid (Rp14.out.below hb)
              have Rq15 := Lib.hid (Rq14.out.below hb)
              have Rr15 := Lib.hid (Rr14.out.below hb)
              have HB15 := Lib.hid (HB14.out.trans (hb.mono HB14.out.size))
              clear HB14 Ra14 Rb14 Rc14 Rm14 Rx14 Rp14 Rq14 Rr14
              have Rl15 := Lib.hid hr
              clear hr hb
              go_wp2_with fail
              refine (words_row line HL.out w15).mono ?_
              rintro x w16 ⟨vk, rfl, hr, hb⟩
              have Ra16 := Lib.hid (Ra15.out.below hb)
              have Rb16 := Lib.hid (Rb15.out.below hb)
              have Rc16 := Lib.hid (Rc15.out.below hb)
              have Rm16 := Lib.hid (Rm15.out.below hb)
              have Rx16 := Lib.hid (Rx15.out.below hb)
              have Rp16 := Lib.hid (Rp15.out.below hb)
              have Rq16 := Lib.hid (Rq15.out.below hb)
              have Rr16 := Lib.hid (Rr15.out.below hb)
              have Rl16 := Lib.hid (Rl15.out.below hb)
              have HB16 := Lib.hid (HB15.out.trans (hb.mono HB15.out.size))
              clear HB15 Ra15 Rb15 Rc15 Rm15 Rx15 Rp15 Rq15 Rr15 Rl15
              have Rk16 := Lib.hid hr
              clear hr hb
              go_wp2_with fail
              refine (same_rows _ (by have := lines_le s; have := HS.out; omega) Rl16.out Rm16.out).mono ?_
              rintro x w17 ⟨rfl, hb⟩
              have Ra17 := Lib.hid (Ra16.out.below hb)
              have Rb17 := Lib.hid (Rb16.out.below hb)
              have Rc17 := Lib.hid (Rc16.out.below hb)
              have Rm17 := Lib.hid (Rm16.out.below hb)
              have Rx17 := Lib.hid (Rx16.out.below hb)
              have Rp17 := Lib.hid (Rp16.out.below hb)
              have Rq17 := Lib.hid (Rq16.out.below hb)
              have Rr17 := Lib.hid (Rr16.out.below hb)
              have Rl17 := Lib.hid (Rl16.out.below hb)
              have Rk17 := Lib.hid (Rk16.out.below hb)
              have HB17 := Lib.hid (HB16.out.trans (hb.mono HB16.out.size))
              clear HB16 Ra16 Rb16 Rc16 Rm16 Rx16 Rp16 Rq16 Rr16 Rl16 Rk16
              clear hb
              go_wp2_with fail
              refine (same_rows _ (by have := words_le line; have := HL.out; omega) Rk17.out Rx17.out).mono ?_
              rintro x w18 ⟨rfl, hb⟩
              have Ra18 := Lib.hid (Ra17.out.below hb)
              have Rb18 := Lib.hid (Rb17.out.below hb)
              have Rc18 := Lib.hid (Rc17.out.below hb)
              have Rm18 := Lib.hid (Rm17.out.below hb)
              have Rx18 := Lib.hid (Rx17.out.below hb)
              have Rp18 := Lib.hid (Rp17.out.below hb)
              have Rq18 := Lib.hid (Rq17.out.below hb)
              have Rr18 := Lib.hid (Rr17.out.below hb)
              have Rl18 := Lib.hid (Rl17.out.below hb)
              have Rk18 := Lib.hid (Rk17.out.below hb)
              have HB18 := Lib.hid (HB17.out.trans (hb.mono HB17.out.size))
              clear HB17 Ra17 Rb17 Rc17 Rm17 Rx17 Rp17 Rq17 Rr17 Rl17 Rk17
              clear hb
              go_wp2_with fail
              refine (marked_calls (List.replicate Xa.length ⟨#[111, 110, 101]⟩) ⟨#[111, 110, 101]⟩ _ _ _ Ra18.out.slin (by have := HYa.out; simp; omega) (fun x hx => (List.mem_replicate.1 hx).2)).mono ?_
              rintro x wx ⟨rfl, rfl⟩
              go_wp2_with fail
              refine (marked_calls (List.replicate (Xa.length + 4) ⟨#[111, 110, 101]⟩) ⟨#[111, 110, 101]⟩ _ _ _ Rp18.out.slin (by have := HYa.out; simp; omega) (fun x hx => (List.mem_replicate.1 hx).2)).mono ?_
              rintro x wx ⟨rfl, rfl⟩
              go_wp2_with fail
              refine (marked_calls (List.replicate Xb.length ⟨#[116, 119, 111]⟩) ⟨#[116, 119, 111]⟩ _ _ _ Rb18.out.slin (by have := HYb.out; simp; omega) (fun x hx => (List.mem_replicate.1 hx).2)).mono ?_
              rintro x wx ⟨rfl, rfl⟩
              go_wp2_with fail
              refine (marked_calls (List.replicate (Xb.length + 4) ⟨#[116, 119, 111]⟩) ⟨#[116, 119, 111]⟩ _ _ _ Rq18.out.slin (by have := HYb.out; simp; omega) (fun x hx => (List.mem_replicate.1 hx).2)).mono ?_
              rintro x wx ⟨rfl, rfl⟩
              go_wp2_with fail
              refine (marked_calls (List.replicate Xc.length ⟨#[116, 104, 114, 101, 101]⟩) ⟨#[116, 104, 114, 101, 101]⟩ _ _ _ Rc18.out.slin (by have := HYc.out; simp; omega) (fun x hx => (List.mem_replicate.1 hx).2)).mono ?_
              rintro x wx ⟨rfl, rfl⟩
              go_wp2_with fail
              refine (marked_calls (List.replicate (Xc.length + 4) ⟨#[116, 104, 114, 101, 101]⟩) ⟨#[116, 104, 114, 101, 101]⟩ _ _ _ Rr18.out.slin (by have := HYc.out; simp; omega) (fun x hx => (List.mem_replicate.1 hx).2)).mono ?_
              rintro x wx ⟨rfl, rfl⟩
              go_wp2_with fail
              refine (asked_calls s line HS.out HL.out _).mono ?_
              rintro x w19 ⟨rfl, hb⟩
              have HB19 := Lib.hid (HB18.out.trans (hb.mono HB18.out.size))
              clear hb
              go_wp2_with fail
              refine (asked2_calls s line HS.out HL.out _).mono ?_
              rintro x w20 ⟨rfl, hb⟩
              have HB20 := Lib.hid (HB19.out.trans (hb.mono HB19.out.size))
              clear hb
              go_wp2
              go_ret
              exact ⟨rfl, HB20.out⟩
end Go.Proofs.Ytaghjiffmondjaa
