/-
  the document's own Join.
-/
import Derived.Test.YtaghjiffmondjaaB24
import Derived.Test.YtaghjiffmondjaaB17
set_option linter.unusedVariables false
set_option linter.unusedSimpArgs false
namespace Go.Proofs.Ytaghjiffmondjaa
open Go.RowKit

theorem joinL_size (ls : List ByteArray) (i : Nat) : (mk (joinL (ls.take i))).size = sumL (ls.take i) := by rw [mk_size, joinL_len]

set_option maxHeartbeats 1000000 in
set_option maxRecDepth 100000 in
theorem rJoin_calls (ls : List ByteArray) (hs : sumL ls ≤ 1000000000) (v : Value) (w : World) (hv : StrsIn w v ls) :
    Calls Try.prog 16 #[v] w fun e w' => e = .returned (.tuple #[.string (joinOf ls).1, .int .i64 (joinOf ls).2]) ∧ Below w.heap.size w w' := by
  obtain ⟨A, cap, rfl, hc⟩ := hv
  have HC := Lib.hid hc
  have HS := Lib.hid hs
  have hn : ls.length ≤ 2 ^ 63 - 1 := by have := len_sum2 ls; omega
  clear hc hs
  go_enter Try.func16, Try.ntmps16
  go_wp2
  go_loopw [4, 5] (fun av iv wr => ∃ (i : Nat) (acc : ByteArray), iv = .int .i64 i ∧ i ≤ ls.length ∧ av = .string acc ∧ Hid (acc = mk (joinL (ls.take i))) ∧ Hid ((ls.take i).all noNl = true) ∧ Hid (Below w.heap.size w wr)) (fun _ iv _ => ls.length - (intOf iv).toNat)
  case atStart => exact ⟨0, _, rfl, by omega, rfl, Lib.hid rfl, Lib.hid rfl, Lib.hid (Below.refl _ _)⟩
  case round =>
    obtain ⟨i, acc, rfl, hi, rfl, HA, HQ, HB⟩ := hrel
    by_cases hlt : i < ls.length
    · obtain ⟨b, o, rfl, hb, hC1⟩ := HC.out (by omega)
      have c0 : w.cell? ⟨b, o + i, none⟩ = some (.string ls[i]) := hC1 i hlt
      have HST := Lib.hid (all_take_succ ls i hlt)
      have HJT := Lib.hid (joinL_take ls i hlt)
      have HAS := Lib.hid (show acc.size + ls[i].size + 1 ≤ 1000000000 by
        rw [HA.out, joinL_size]
        have := sumL_take ls i hlt
        have := sumL_le ls (i + 1)
        have := HS.out
        omega)
      have HMEM := Lib.hid (List.getElem_mem hlt)
      obtain ⟨x, hx⟩ : ∃ x, x = ls[i] := ⟨_, rfl⟩
      rw [← hx] at c0 HST HJT HAS HMEM
      have hsz : x.size ≤ 2 ^ 63 - 1 := by have := HAS.out; omega
      have HCELL := Lib.hid (show ∀ w' : World, Below w.heap.size w w' → w'.cell? ⟨b, o + i, none⟩ = some (.string x) from fun w' h => (h.cell hb).trans c0)
      clear hC1 hx c0
      have hm := HAS.out
      clear hm
      go_wp2
      go_loopw [6] (fun kv wr => ∃ k : Nat, kv = .int .i64 k ∧ k ≤ x.size ∧ Hid ((x.data.toList.take k).all (· != 10) = true) ∧ Hid (Below w.heap.size w wr)) (fun kv _ => x.size - (intOf kv).toNat)
      case atStart => exact ⟨0, rfl, by omega, Lib.hid rfl, HB⟩
      case round =>
        clear HB
        obtain ⟨k, rfl, hk, HK, HB⟩ := hrel
        have c1 := HCELL.out _ HB.out
        by_cases hkt : k < x.size
        · have HNT := Lib.hid (nl_take_succ x k hkt)
          by_cases hx10 : x[k] = 10
          · have t1 : ((x[k].toNat : Int) == 10) = true := by rw [hx10]; rfl
            have HF := Lib.hid (show joinOf ls = (⟨#[]⟩, 43) by
              unfold joinOf
              rw [if_neg]
              intro h
              have h1 := List.all_eq_true.1 h x HMEM.out
              have h2 := List.all_eq_true.1 h1 x[k] (List.getElem_mem (l := x.data.toList) (by simpa using hkt))
              rw [hx10] at h2
              exact absurd h2 (by decide))
            clear hx10
            go_wp2
            go_ret2
            exact ⟨by rw [HF.out]; rfl, HB.out⟩
          · have t1 : ((x[k].toNat : Int) == 10) = false := by
              simp; intro h; exact hx10 (UInt8.toNat_inj.1 (by have : (10 : UInt8).toNat = 10 := rfl; omega))
            have HX := Lib.hid hx10
            clear hx10
            go_wp2
            exact ⟨⟨k + 1, by go_num, by omega, Lib.hid (by rw [HNT.out, HK.out]; simpa using HX.out), HB⟩, by simp [intOf]; omega⟩
        · obtain rfl : k = x.size := by omega
          have a1 := fun (w : World) => run_string_add_sum (P := Try.prog) (w := w) acc x (by have := HAS.out; omega)
          have a2 := fun (w : World) => run_string_add_sum (P := Try.prog) (w := w) (acc ++ x) ⟨#[10]⟩ (by have := HAS.out; rw [ByteArray.size_append, nl_one]; omega)
          go_wp2
          refine ⟨⟨i + 1, _, by go_num, by omega, rfl, Lib.hid ?_, Lib.hid ?_, HB⟩, by simp [intOf]; omega⟩
          · rw [HJT.out]
            exact app_mk (app_mk HA.out (mk_data x).symm) rfl
          · rw [HST.out, HQ.out, ← nl_take_all, HK.out]; rfl
    · obtain rfl : i = ls.length := by omega
      have HF := Lib.hid (show joinOf ls = (acc, 0) by
        unfold joinOf
        have h1 := HQ.out
        have h2 := HA.out
        rw [List.take_length] at h1 h2
        rw [if_pos h1, h2])
      go_wp2
      go_ret2
      exact ⟨by rw [HF.out]; rfl, HB.out⟩
end Go.Proofs.Ytaghjiffmondjaa
