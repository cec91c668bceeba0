/-
  the law TextLinesBack, walked: it answers true.
-/
import Derived.Test.YtaghjiffmondjaaP1
set_option linter.unusedVariables false
set_option linter.unusedSimpArgs false
namespace Go.Proofs.Ytaghjiffmondjaa
open Go.RowKit

theorem all_take_succ (ls : List ByteArray) (i : Nat) (hi : i < ls.length) : (ls.take (i + 1)).all noNl = ((ls.take i).all noNl && noNl ls[i]) := by
  rw [List.take_succ_eq_append_getElem hi, List.all_append]; simp
theorem nl_take_succ (s : ByteArray) (k : Nat) (hk : k < s.size) : (s.data.toList.take (k + 1)).all (· != 10) = ((s.data.toList.take k).all (· != 10) && (s[k] != 10)) := by
  rw [take_snoc s k hk, List.all_append]; simp
theorem nl_take_all (s : ByteArray) : (s.data.toList.take s.size).all (· != 10) = noNl s := by
  unfold noNl
  rw [List.take_of_length_le (by simp)]
theorem nl_int (c : UInt8) : ((c.toNat : Int) != 10) = (c != 10) := by
  by_cases h : c = 10
  · subst h; rfl
  · rw [show (c != 10) = true by simpa using h]
    simp
    intro h2
    exact h (UInt8.toNat_inj.1 (by have : (10 : UInt8).toNat = 10 := rfl; omega))
theorem len_sum2 (ss : List ByteArray) : ss.length ≤ sumL ss := by
  have := accL_le ss 0 (by omega); rw [accL_zero] at this; exact this
theorem lines_len (s : ByteArray) (h : s.size ≤ 9000000000000) : (linesOf s).1.length ≤ 2 ^ 63 - 1 := by
  unfold linesOf
  split
  · simp
  · split
    · have := partL_len 10 s.data.toList.dropLast
      have h1 : s.data.toList.length = s.size := by simp
      simp only [List.length_map]
      rw [List.length_dropLast] at this
      omega
    · simp
theorem nl_one : (⟨#[10]⟩ : ByteArray).size = 1 := rfl
theorem nl_behind {a : ByteArray} (h : a.size ≤ 1000000000) : (a ++ ⟨#[10]⟩).size ≤ 8000000000000 := by rw [ByteArray.size_append, nl_one]; omega
theorem nl_sum {a : ByteArray} (h : a.size ≤ 1000000000) : a.size + (⟨#[10]⟩ : ByteArray).size ≤ 9223372036854775807 := by rw [nl_one]; omega
theorem nl_mk (s : ByteArray) : s ++ ⟨#[10]⟩ = mk (s.data.toList ++ [10]) := app_mk (mk_data s).symm rfl

set_option maxHeartbeats 2000000 in
set_option maxRecDepth 100000 in
theorem linesBack_calls (ls : List ByteArray) (hs : sumL ls ≤ 1000000000) (s : ByteArray) (hs2 : s.size ≤ 1000000000) (v : Value) (w : World) (hv : StrsIn w v ls) :
    Calls Try.prog 5 #[v, .string s] w fun e w' => e = .returned (.bool true) ∧ Below w.heap.size w w' := by
  have HV0 := Lib.hid hv
  obtain ⟨A, cap, rfl, hc⟩ := hv
  have HC := Lib.hid hc
  have HS := Lib.hid hs
  have HS2 := Lib.hid hs2
  have hn : ls.length ≤ 2 ^ 63 - 1 := by have := len_sum2 ls; omega
  have hj : (joinOf ls).1.size ≤ 8000000000000 := by
    unfold joinOf
    split
    · rw [mk_size, joinL_len]; omega
    · show 0 ≤ _; omega
  have HJ := Lib.hid hj
  clear hc hs hs2 hj
  go_enter Try.func5, Try.ntmps5
  go_wp2_with fail
  refine (join_calls ls (by have := HS.out; omega) _ w HV0.out).mono ?_
  rintro e w1 ⟨rfl, hb1⟩
  have HB1 := Lib.hid hb1
  clear hb1
  obtain ⟨t, ht⟩ : ∃ t, t = (joinOf ls).1 := ⟨_, rfl⟩
  rw [← ht]
  have HT := Lib.hid ht
  clear ht
  go_wp2_with fail
  refine (lines_calls t (by rw [HT.out]; exact HJ.out) w1).mono ?_
  rintro e w2 ⟨v2, rfl, ho, hb2⟩
  have HB2 := Lib.hid (HB1.out.trans (hb2.mono HB1.out.size))
  clear hb2
  have HSI := Lib.hid (StrsIn.of_own ho)
  have HL2 := Lib.hid (show (linesOf t).1.length ≤ 2 ^ 63 - 1 by rw [HT.out]; exact lines_len _ (by have := HJ.out; omega))
  have HV1 := Lib.hid (HV0.out.keep HB2.out.block HB2.out.size)
  clear ho
  go_wp2_with fail
  refine (same_calls (linesOf t).1 ls HL2.out hn _ _ w2 HSI.out HV1.out).mono ?_
  rintro e w3 ⟨rfl, hb3⟩
  have HB3 := Lib.hid (HB2.out.trans (hb3.mono HB2.out.size))
  clear hb3
  have HB0 := Lib.hid (show ∀ (b o i : Nat), b < w.heap.size → ∀ w' : World, Below w.heap.size w w' → w'.cell? ⟨b, o + i, none⟩ = w.cell? ⟨b, o + i, none⟩ from fun b o i hb w' h => h.cell hb)
  have HQ : ∀ ec : Int, Hid ((ls.all noNl = true ∧ ec = 0) ∨ (ls.all noNl = false ∧ ec = 43)) → (ec = 0 ∨ ec = 43) := fun ec h => h.out.elim (fun h => .inl h.2) (fun h => .inr h.2)
  clear HQ
  have HSM := Lib.hid (show ls.all noNl = true → sameB (linesOf t).1 ls = true ∧ (linesOf t).2 = 0 from fun h => by
    have e : t = mk (joinL ls) := by rw [HT.out]; unfold joinOf; rw [if_pos h]
    rw [e, lines_join ls h]; exact ⟨decide_eq_true rfl, rfl⟩)
  rcases hall : ls.all noNl with _ | _
  · have e1 : (joinOf ls).2 = 43 := by unfold joinOf; rw [hall]; rfl
    rw [e1]
    have HALL := Lib.hid hall
    clear hall e1
    generalize sameB (linesOf t).1 ls = bk at HSM
    generalize (linesOf t).2 = f at HSM
    clear HSM
    go_wp2
    go_loopw [10, 11] (fun qv iv wr => ∃ (i : Nat) (q : Bool), iv = .int .i64 i ∧ i ≤ ls.length ∧ qv = .bool q ∧ Hid (q = (ls.take i).all noNl) ∧ Hid (Below w.heap.size w wr)) (fun _ iv _ => ls.length - (intOf iv).toNat)
    case atStart => exact ⟨0, true, rfl, by omega, rfl, Lib.hid (by simp), HB3⟩
    case round =>
      obtain ⟨i, q, rfl, hi, rfl, HQ, HB⟩ := hrel
      by_cases hlt : i < ls.length
      · obtain ⟨b, o, rfl, hb, hC1⟩ := HC.out (by omega)
        have c0 : w.cell? ⟨b, o + i, none⟩ = some (.string ls[i]) := hC1 i hlt
        have HST := Lib.hid (all_take_succ ls i hlt)
        have hsz : ls[i].size ≤ 2 ^ 63 - 1 := by have := accL_le ls (i + 1) (by omega); rw [accL_succ ls i hlt] at this; have := HS.out; omega
        obtain ⟨x, hx⟩ : ∃ x, x = ls[i] := ⟨_, rfl⟩
        rw [← hx] at c0 HST hsz
        have HCELL := Lib.hid (show ∀ w' : World, Below w.heap.size w w' → w'.cell? ⟨b, o + i, none⟩ = some (.string x) from fun w' h => (h.cell hb).trans c0)
        clear hC1 hx c0
        go_wp2
        go_loopw [10, 12] (fun qv kv wr => ∃ (k : Nat) (q : Bool), kv = .int .i64 k ∧ k ≤ x.size ∧ qv = .bool q ∧ Hid (q = ((ls.take i).all noNl && (x.data.toList.take k).all (· != 10))) ∧ Hid (Below w.heap.size w wr)) (fun _ kv _ => x.size - (intOf kv).toNat)
        case atStart => exact ⟨0, q, rfl, by omega, rfl, Lib.hid (by rw [HQ.out]; simp), HB⟩
        case round =>
          clear HQ HB
          obtain ⟨k, q2, rfl, hk, rfl, HQ, HB⟩ := hrel
          have c1 := HCELL.out _ HB.out
          by_cases hkt : k < x.size
          · have HNT := Lib.hid (nl_take_succ x k hkt)
            obtain ⟨r, hr⟩ : ∃ r, r = (x[k] != 10) := ⟨_, rfl⟩
            have t1 : ((x[k].toNat : Int) != 10) = r := by rw [hr, nl_int]
            have HR := Lib.hid hr
            clear hr
            rcases q2 with _ | _
            · go_wp2
              exact ⟨⟨k + 1, false, by go_num, by omega, rfl, Lib.hid (by rw [HNT.out, ← Bool.and_assoc, ← HQ.out]; rfl), HB⟩, by simp [intOf]; omega⟩
            · rcases r with _ | _
              · go_wp2
                exact ⟨⟨k + 1, false, by go_num, by omega, rfl, Lib.hid (by rw [HNT.out, ← Bool.and_assoc, ← HQ.out, ← HR.out]; rfl), HB⟩, by simp [intOf]; omega⟩
              · go_wp2
                exact ⟨⟨k + 1, true, by go_num, by omega, rfl, Lib.hid (by rw [HNT.out, ← Bool.and_assoc, ← HQ.out, ← HR.out]; rfl), HB⟩, by simp [intOf]; omega⟩
          · obtain rfl : k = x.size := by omega
            go_wp2
            exact ⟨⟨i + 1, q2, by go_num, by omega, rfl, Lib.hid (by rw [HST.out, HQ.out, nl_take_all]), HB⟩, by simp [intOf]; omega⟩
      · obtain rfl : i = ls.length := by omega
        have hq : q = ls.all noNl := by rw [HQ.out, List.take_length]
        rw [HALL.out] at hq
        subst hq
        have hjl := join_lines _ _ (nl_mk s)
        obtain ⟨y, hy⟩ : ∃ y, y = s ++ ⟨#[10]⟩ := ⟨_, rfl⟩
        have HY := Lib.hid hy
        have HYS := Lib.hid (nl_behind HS2.out)
        rw [← hy] at hjl HYS
        have HYL := Lib.hid hjl
        have a1 := fun (w : World) => run_string_add_sum (P := Try.prog) (w := w) s ⟨#[10]⟩ (nl_sum HS2.out)
        rw [← hy] at a1
        clear hy hjl
        go_wp2_with fail
        refine (lines_calls y HYS.out wr).mono ?_
        rintro e w4 ⟨v4, rfl, ho, hb4⟩
        rw [HYL.out.1]
        have HB4 := Lib.hid (HB.out.trans (hb4.mono HB.out.size))
        have HSI4 := Lib.hid (StrsIn.of_own ho)
        clear ho hb4
        go_wp2_with fail
        refine (join_calls (linesOf y).1 (by rw [HYL.out.2.2]; have := HYS.out; omega) _ w4 HSI4.out).mono ?_
        rintro e w5 ⟨rfl, hb5⟩
        rw [HYL.out.2.1]
        have HB5 := Lib.hid (HB4.out.trans (hb5.mono HB4.out.size))
        clear hb5
        have t1 := str_eq y
        go_wp2
        go_ret
        exact ⟨rfl, HB5.out⟩
  · have e1 : (joinOf ls).2 = 0 := by unfold joinOf; rw [hall]; rfl
    rw [e1, (HSM.out hall).1, (HSM.out hall).2]
    have HALL := Lib.hid hall
    clear hall e1 HSM
    go_wp2
    go_loopw [10, 11] (fun qv iv wr => ∃ (i : Nat) (q : Bool), iv = .int .i64 i ∧ i ≤ ls.length ∧ qv = .bool q ∧ Hid (q = (ls.take i).all noNl) ∧ Hid (Below w.heap.size w wr)) (fun _ iv _ => ls.length - (intOf iv).toNat)
    case atStart => exact ⟨0, true, rfl, by omega, rfl, Lib.hid (by simp), HB3⟩
    case round =>
      obtain ⟨i, q, rfl, hi, rfl, HQ, HB⟩ := hrel
      by_cases hlt : i < ls.length
      · obtain ⟨b, o, rfl, hb, hC1⟩ := HC.out (by omega)
        have c0 : w.cell? ⟨b, o + i, none⟩ = some (.string ls[i]) := hC1 i hlt
        have HST := Lib.hid (all_take_succ ls i hlt)
        have hsz : ls[i].size ≤ 2 ^ 63 - 1 := by have := accL_le ls (i + 1) (by omega); rw [accL_succ ls i hlt] at this; have := HS.out; omega
        obtain ⟨x, hx⟩ : ∃ x, x = ls[i] := ⟨_, rfl⟩
        rw [← hx] at c0 HST hsz
        have HCELL := Lib.hid (show ∀ w' : World, Below w.heap.size w w' → w'.cell? ⟨b, o + i, none⟩ = some (.string x) from fun w' h => (h.cell hb).trans c0)
        clear hC1 hx c0
        go_wp2
        go_loopw [10, 12] (fun qv kv wr => ∃ (k : Nat) (q : Bool), kv = .int .i64 k ∧ k ≤ x.size ∧ qv = .bool q ∧ Hid (q = ((ls.take i).all noNl && (x.data.toList.take k).all (· != 10))) ∧ Hid (Below w.heap.size w wr)) (fun _ kv _ => x.size - (intOf kv).toNat)
        case atStart => exact ⟨0, q, rfl, by omega, rfl, Lib.hid (by rw [HQ.out]; simp), HB⟩
        case round =>
          clear HQ HB
          obtain ⟨k, q2, rfl, hk, rfl, HQ, HB⟩ := hrel
          have c1 := HCELL.out _ HB.out
          by_cases hkt : k < x.size
          · have HNT := Lib.hid (nl_take_succ x k hkt)
            obtain ⟨r, hr⟩ : ∃ r, r = (x[k] != 10) := ⟨_, rfl⟩
            have t1 : ((x[k].toNat : Int) != 10) = r := by rw [hr, nl_int]
            have HR := Lib.hid hr
            clear hr
            rcases q2 with _ | _
            · go_wp2
              exact ⟨⟨k + 1, false, by go_num, by omega, rfl, Lib.hid (by rw [HNT.out, ← Bool.and_assoc, ← HQ.out]; rfl), HB⟩, by simp [intOf]; omega⟩
            · rcases r with _ | _
              · go_wp2
                exact ⟨⟨k + 1, false, by go_num, by omega, rfl, Lib.hid (by rw [HNT.out, ← Bool.and_assoc, ← HQ.out, ← HR.out]; rfl), HB⟩, by simp [intOf]; omega⟩
              · go_wp2
                exact ⟨⟨k + 1, true, by go_num, by omega, rfl, Lib.hid (by rw [HNT.out, ← Bool.and_assoc, ← HQ.out, ← HR.out]; rfl), HB⟩, by simp [intOf]; omega⟩
          · obtain rfl : k = x.size := by omega
            go_wp2
            exact ⟨⟨i + 1, q2, by go_num, by omega, rfl, Lib.hid (by rw [HST.out, HQ.out, nl_take_all]), HB⟩, by simp [intOf]; omega⟩
      · obtain rfl : i = ls.length := by omega
        have hq : q = ls.all noNl := by rw [HQ.out, List.take_length]
        rw [HALL.out] at hq
        subst hq
        have hjl := join_lines _ _ (nl_mk s)
        obtain ⟨y, hy⟩ : ∃ y, y = s ++ ⟨#[10]⟩ := ⟨_, rfl⟩
        have HY := Lib.hid hy
        have HYS := Lib.hid (nl_behind HS2.out)
        rw [← hy] at hjl HYS
        have HYL := Lib.hid hjl
        have a1 := fun (w : World) => run_string_add_sum (P := Try.prog) (w := w) s ⟨#[10]⟩ (nl_sum HS2.out)
        rw [← hy] at a1
        clear hy hjl
        go_wp2_with fail
        refine (lines_calls y HYS.out wr).mono ?_
        rintro e w4 ⟨v4, rfl, ho, hb4⟩
        rw [HYL.out.1]
        have HB4 := Lib.hid (HB.out.trans (hb4.mono HB.out.size))
        have HSI4 := Lib.hid (StrsIn.of_own ho)
        clear ho hb4
        go_wp2_with fail
        refine (join_calls (linesOf y).1 (by rw [HYL.out.2.2]; have := HYS.out; omega) _ w4 HSI4.out).mono ?_
        rintro e w5 ⟨rfl, hb5⟩
        rw [HYL.out.2.1]
        have HB5 := Lib.hid (HB4.out.trans (hb5.mono HB4.out.size))
        clear hb5
        have t1 := str_eq y
        go_wp2
        go_ret
        exact ⟨rfl, HB5.out⟩
end Go.Proofs.Ytaghjiffmondjaa
