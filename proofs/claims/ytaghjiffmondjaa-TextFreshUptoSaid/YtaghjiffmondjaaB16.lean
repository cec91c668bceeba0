/-
  the law TextWordsBack, walked: it answers true.
-/
import Derived.Test.YtaghjiffmondjaaP0
set_option linter.unusedVariables false
set_option linter.unusedSimpArgs false
namespace Go.Proofs.Ytaghjiffmondjaa
open Go.RowKit

theorem mk_app (a b : List UInt8) : mk a ++ mk b = mk (a ++ b) := bytes_ext (by simp [mk, ByteArray.data_append])
theorem app_mk {a b : ByteArray} {x y : List UInt8} (ha : a = mk x) (hb : b = mk y) : a ++ b = mk (x ++ y) := by rw [ha, hb, mk_app]

theorem one_size : (⟨#[32]⟩ : ByteArray).size = 1 := rfl
theorem behind_size (a : ByteArray) : (a ++ ⟨#[32]⟩).size = a.size + 1 := by rw [ByteArray.size_append, one_size]
theorem ahead_size (a : ByteArray) : ((⟨#[32]⟩ : ByteArray) ++ a).size = 1 + a.size := by rw [ByteArray.size_append, one_size]
theorem behind_le {a : ByteArray} (h : a.size ≤ 1000000000) : (a ++ ⟨#[32]⟩).size ≤ 8000000000000 := by rw [behind_size]; omega
theorem ahead_le {a : ByteArray} (h : a.size ≤ 1000000000) : ((⟨#[32]⟩ : ByteArray) ++ a).size ≤ 8000000000000 := by rw [ahead_size]; omega
theorem behind_sum {a : ByteArray} (h : a.size ≤ 1000000000) : a.size + (⟨#[32]⟩ : ByteArray).size ≤ 9223372036854775807 := by rw [one_size]; omega
theorem ahead_sum {a : ByteArray} (h : a.size ≤ 1000000000) : (⟨#[32]⟩ : ByteArray).size + a.size ≤ 9223372036854775807 := by rw [one_size]; omega
theorem wordsOf_behind' {acc : ByteArray} {ws : List ByteArray} (h : acc = mk (lineN ws ws.length)) : (wordsOf (acc ++ ⟨#[32]⟩)).2 = 44 := by
  have e : acc ++ ⟨#[32]⟩ = mk (lineN ws ws.length ++ [32]) := app_mk h rfl
  rw [e]; exact wordsOf_behind ws
theorem wordsOf_ahead' {acc : ByteArray} {ws : List ByteArray} (h : acc = mk (lineN ws ws.length)) : (wordsOf (⟨#[32]⟩ ++ acc)).2 = 44 := by
  have e : (⟨#[32]⟩ : ByteArray) ++ acc = mk ([32] ++ lineN ws ws.length) := app_mk rfl h
  rw [e]; exact wordsOf_ahead ws

set_option maxHeartbeats 1000000 in
set_option maxRecDepth 100000 in
theorem wordsBack_calls (ws : List ByteArray) (hs : wgt ws ≤ 1000000000) (hn : ws.length ≤ 1000000000) (v : Value) (w : World) (hv : StrsIn w v ws) :
    Calls Try.prog 8 #[v] w fun e w' => e = .returned (.bool true) ∧ Below w.heap.size w w' := by
  have HV0 := Lib.hid hv
  obtain ⟨A, cap, rfl, hc⟩ := hv
  have HC := Lib.hid hc
  have HS := Lib.hid hs
  replace hn : ws.length ≤ 2 ^ 63 - 1 := by omega
  clear hc hs
  go_enter Try.func8, Try.ntmps8
  go_wp2
  go_loopw [3, 4] (fun lv iv wr => ∃ (i : Nat) (acc : ByteArray), iv = .int .i64 i ∧ i ≤ ws.length ∧ lv = .string acc ∧ Hid (acc = mk (lineN ws i)) ∧ Hid (Below w.heap.size w wr)) (fun _ iv _ => ws.length - (intOf iv).toNat)
  case atStart => exact ⟨0, _, rfl, by omega, rfl, Lib.hid rfl, Lib.hid (Below.refl _ _)⟩
  case round =>
    obtain ⟨i, acc, rfl, hi, rfl, HA, HB⟩ := hrel
    by_cases hlt : i < ws.length
    · obtain ⟨b, o, rfl, hb, hC1⟩ := HC.out (by omega)
      have c1 : wr.cell? ⟨b, o + i, none⟩ = some (.string ws[i]) := by rw [HB.out.cell hb]; exact hC1 i hlt
      clear hC1
      have hg : ws.getD i ⟨#[]⟩ = ws[i] := by simp [List.getD, hlt]
      have hsz : 3 * ws[i].size + 3 < 140737488355328 := by have := wgt_take ws i hlt; have := wgt_le ws (i + 1); have := HS.out; omega
      have hln : acc.size ≤ 1000000000 := by rw [HA.out, mk_size]; have := lineN_len ws i hi; have := wgt_le ws i; have := HS.out; omega
      have HLN := Lib.hid hln
      have hstep : lineN ws (i + 1) = (if 0 < i then lineN ws i ++ [32] else lineN ws i) ++ (escape (ws.getD i ⟨#[]⟩)).data.toList := rfl
      rw [hg] at hstep
      have hesc := escape_len ws[i]
      obtain ⟨x, hx⟩ : ∃ x, x = ws[i] := ⟨_, rfl⟩
      rw [← hx] at c1 hsz hstep hesc
      have HSTEP := Lib.hid hstep
      have HSZ := Lib.hid hsz
      have HE := Lib.hid hesc
      clear hg hx hstep hsz hesc hln
      by_cases h0 : 0 < i
      · have a1 := fun (w : World) => run_string_add_sum (P := Try.prog) (w := w) acc ⟨#[32]⟩ (behind_sum HLN.out)
        go_wp2_with fail
        refine (escape_calls x HSZ.out wr).mono ?_
        rintro e w3 ⟨rfl, hb3⟩
        have HB3 := Lib.hid (HB.out.trans (hb3.mono HB.out.size))
        clear hb3 a1
        obtain ⟨y, hy⟩ : ∃ y, y = escape x := ⟨_, rfl⟩
        rw [← hy]
        have a2 := fun (w : World) => run_string_add_sum (P := Try.prog) (w := w) (acc ++ ⟨#[32]⟩) y (by have := HLN.out; have := HE.out; have := HSZ.out; rw [behind_size, hy]; omega)
        have HY := Lib.hid hy
        clear hy
        go_wp2
        refine ⟨⟨i + 1, _, by go_num, by omega, rfl, Lib.hid ?_, HB3⟩, by simp [intOf]; omega⟩
        rw [HSTEP.out, if_pos h0]
        exact app_mk (app_mk HA.out rfl) (by rw [HY.out, mk_data])
      · go_wp2_with fail
        refine (escape_calls x HSZ.out wr).mono ?_
        rintro e w3 ⟨rfl, hb3⟩
        have HB3 := Lib.hid (HB.out.trans (hb3.mono HB.out.size))
        clear hb3
        obtain ⟨y, hy⟩ : ∃ y, y = escape x := ⟨_, rfl⟩
        rw [← hy]
        have a2 := fun (w : World) => run_string_add_sum (P := Try.prog) (w := w) acc y (by have := HLN.out; have := HE.out; have := HSZ.out; rw [hy]; omega)
        have HY := Lib.hid hy
        clear hy
        go_wp2
        refine ⟨⟨i + 1, _, by go_num, by omega, rfl, Lib.hid ?_, HB3⟩, by simp [intOf]; omega⟩
        rw [HSTEP.out, if_neg h0]
        exact app_mk HA.out (by rw [HY.out, mk_data])
    · obtain rfl : i = ws.length := by omega
      have hsz : acc.size ≤ 1000000000 := by rw [HA.out, mk_size]; have := lineN_len ws ws.length hi; have := wgt_le ws ws.length; have := HS.out; omega
      have HSZ := Lib.hid hsz
      have HF := Lib.hid (show wordsOf acc = (ws, 0) by rw [HA.out]; exact wordsOf_line ws)
      have HF2 := Lib.hid (wordsOf_behind' HA.out)
      have HF3 := Lib.hid (wordsOf_ahead' HA.out)
      clear hsz
      go_wp2_with fail
      refine (words_calls acc (by have := HSZ.out; omega) wr).mono ?_
      rintro e w3 ⟨v1, rfl, ho, hb3⟩
      rw [HF.out] at ho ⊢
      have HSI := Lib.hid (StrsIn.of_own ho)
      have HB3 := Lib.hid (HB.out.trans (hb3.mono HB.out.size))
      have HV1 := Lib.hid (HV0.out.keep HB3.out.block HB3.out.size)
      clear hb3 ho
      go_wp2_with fail
      refine (same_calls ws ws hn hn _ _ w3 HSI.out HV1.out).mono ?_
      rintro e w4 ⟨rfl, hb4⟩
      rw [show sameB ws ws = true from decide_eq_true rfl]
      have HB4 := Lib.hid (HB3.out.trans (hb4.mono HB3.out.size))
      clear hb4
      have a1 := fun (w : World) => run_string_add_sum (P := Try.prog) (w := w) acc ⟨#[32]⟩ (behind_sum HSZ.out)
      go_wp2_with fail
      refine (words_calls _ (behind_le HSZ.out) w4).mono ?_
      rintro e w5 ⟨v5, rfl, ho, hb5⟩
      rw [HF2.out]
      have HB5 := Lib.hid (HB4.out.trans (hb5.mono HB4.out.size))
      clear hb5 ho a1
      have a1 := fun (w : World) => run_string_add_sum (P := Try.prog) (w := w) ⟨#[32]⟩ acc (ahead_sum HSZ.out)
      go_wp2_with fail
      refine (words_calls _ (ahead_le HSZ.out) w5).mono ?_
      rintro e w6 ⟨v6, rfl, ho, hb6⟩
      rw [HF3.out]
      have HB6 := Lib.hid (HB5.out.trans (hb6.mono HB5.out.size))
      clear hb6 ho a1
      go_wp2
      go_ret
      exact ⟨rfl, HB6.out⟩
end Go.Proofs.Ytaghjiffmondjaa
