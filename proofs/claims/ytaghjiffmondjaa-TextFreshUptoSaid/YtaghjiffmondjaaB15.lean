/-
  the laws' sameTexts: two lists, compared.
-/
import Derived.Test.YtaghjiffmondjaaB14
set_option linter.unusedVariables false
set_option linter.unusedSimpArgs false
namespace Go.Proofs.Ytaghjiffmondjaa
open Go.RowKit

def sameB (xs ys : List ByteArray) : Bool := decide (xs = ys)

set_option maxHeartbeats 1000000 in
set_option maxRecDepth 100000 in
theorem same_calls (xs ys : List ByteArray) (hx : xs.length ≤ 2 ^ 63 - 1) (hy : ys.length ≤ 2 ^ 63 - 1) (va vb : Value) (w : World) (h1 : StrsIn w va xs) (h2 : StrsIn w vb ys) :
    Calls Try.prog 17 #[va, vb] w fun e w' => e = .returned (.bool (sameB xs ys)) ∧ Below w.heap.size w w' := by
  obtain ⟨A, ca, rfl, h1⟩ := h1
  obtain ⟨B, cb, rfl, h2⟩ := h2
  have H1 := Lib.hid h1
  have H2 := Lib.hid h2
  clear h1 h2
  by_cases hl : xs.length = ys.length
  · obtain ⟨n, hn⟩ : ∃ n, n = xs.length := ⟨_, rfl⟩
    rw [← hl, ← hn]
    rw [← hn] at hx
    have HN := Lib.hid hn
    have HL := Lib.hid hl
    clear hl hn hy
    go_enter Try.func17, Try.ntmps17
    go_wp2
    go_loopw [5] (fun iv wr => ∃ i : Nat, iv = .int .i64 i ∧ i ≤ n ∧ Hid (∀ j, j < i → xs[j]? = ys[j]?) ∧ Hid (Below w.heap.size w wr)) (fun iv _ => n - (intOf iv).toNat)
    case atStart => exact ⟨0, rfl, by omega, Lib.hid (fun j hj => by omega), Lib.hid (Below.refl _ _)⟩
    case round =>
      obtain ⟨i, rfl, hi, HI, HB⟩ := hrel
      by_cases hlt : i < n
      · obtain ⟨b, o, rfl, hb, hC1⟩ := H1.out (by have := HN.out; omega)
        obtain ⟨b2, o2, rfl, hb2, hC2⟩ := H2.out (by have := HN.out; have := HL.out; omega)
        have hix : i < xs.length := by have := HN.out; omega
        have hiy : i < ys.length := by have := HN.out; have := HL.out; omega
        have c1 : wr.cell? ⟨b, o + i, none⟩ = some (.string xs[i]) := by rw [HB.out.cell hb]; exact hC1 i hix
        have c2 : wr.cell? ⟨b2, o2 + i, none⟩ = some (.string ys[i]) := by rw [HB.out.cell hb2]; exact hC2 i hiy
        have gx := List.getElem?_eq_getElem hix
        have gy := List.getElem?_eq_getElem hiy
        obtain ⟨x, hx⟩ : ∃ x, x = xs[i] := ⟨_, rfl⟩
        obtain ⟨y, hy⟩ : ∃ y, y = ys[i] := ⟨_, rfl⟩
        rw [← hx] at c1 gx
        rw [← hy] at c2 gy
        have GX := Lib.hid gx
        have GY := Lib.hid gy
        clear hC1 hC2 hx hy gx gy hix hiy
        by_cases hxy : x = y
        · have t1 : (x.toList == y.toList) = true := by rw [hxy]; exact str_eq y
          have HX := Lib.hid hxy
          clear hxy
          go_wp2
          go_region
          go_wp2
          exact ⟨⟨i + 1, by go_num, by omega, Lib.hid (fun j hj => by
            rcases Nat.lt_or_ge j i with h | h
            · exact HI.out j h
            · obtain rfl : j = i := by omega
              rw [GX.out, GY.out, HX.out]), Lib.hid HB.out.drew⟩, by simp [intOf]; omega⟩
        · have t1 := str_ne hxy
          have HX := Lib.hid hxy
          clear hxy
          go_wp2
          go_region
          go_wp2
          go_ret
          refine ⟨?_, HB.out.drew⟩
          rw [show sameB xs ys = false from decide_eq_false fun h => HX.out (by
            have h1 := GX.out; have h2 := GY.out; rw [h, h2] at h1; exact (Option.some.inj h1).symm)]
          rfl
      · obtain rfl : i = n := by omega
        go_wp2
        go_ret
        refine ⟨?_, HB.out⟩
        rw [show sameB xs ys = true from decide_eq_true (List.ext_getElem? fun j => by
          rcases Nat.lt_or_ge j i with h | h
          · exact HI.out j h
          · rw [List.getElem?_eq_none (by have := HN.out; omega), List.getElem?_eq_none (by have := HN.out; have := HL.out; omega)])]
        rfl
  · have hli : decide ((xs.length : Int) = (ys.length : Int)) = false := by simp; omega
    go_enter Try.func17, Try.ntmps17
    go_wp2
    go_ret
    refine ⟨?_, Below.refl _ _⟩
    rw [show sameB xs ys = false from decide_eq_false fun h => hl (by rw [h])]
    rfl
end Go.Proofs.Ytaghjiffmondjaa
