/-
  the laws' among: are all bytes of a text among those of another?
-/
import Derived.Test.YtaghjiffmondjaaP2
import Derived.BigQuiet
set_option linter.unusedVariables false
set_option linter.unusedSimpArgs false
namespace Go.Proofs.Ytaghjiffmondjaa
open Go.RowKit

theorem any_take_succ (a : ByteArray) (c : UInt8) (k : Nat) (hk : k < a.size) : (a.data.toList.take (k + 1)).any (· == c) = ((a.data.toList.take k).any (· == c) || (a[k] == c)) := by
  rw [take_snoc a k hk, List.any_append]; simp
theorem u8_beq (c d : UInt8) : ((c.toNat : Int) == (d.toNat : Int)) = (c == d) := by
  by_cases h : c = d
  · subst h; simp
  · rw [show (c == d) = false by simpa using h]
    simp
    intro h2
    exact h (UInt8.toNat_inj.1 (by omega))

theorem below_drewN {B : Nat} {a w : World} (h : Below B a w) (n : Nat) : Below B a (w.drewN n) := ⟨h.os, h.tape, h.output, h.size, h.block⟩

set_option maxHeartbeats 2000000 in
set_option maxRecDepth 100000 in
theorem among_calls (s a : ByteArray) (hs : s.size ≤ 2 ^ 63 - 1) (ha : a.size ≤ 2 ^ 63 - 1) (w : World) :
    Calls Try.prog 41 #[.string s, .string a] w fun e w' => e = .returned (.bool (amongB s a)) ∧ Below w.heap.size w w' := by
  go_enter Try.func41, Try.ntmps41
  go_wp2
  go_loopw [5] (fun iv wr => ∃ i : Nat, iv = .int .i64 i ∧ i ≤ s.size ∧ Hid (∀ x ∈ s.data.toList.take i, a.data.toList.contains x = true) ∧ Hid (Below w.heap.size w wr)) (fun iv _ => s.size - (intOf iv).toNat)
  case atStart => exact ⟨0, rfl, by omega, Lib.hid (by simp), Lib.hid (Below.refl _ _)⟩
  case round =>
    obtain ⟨i, rfl, hi, HI, HB⟩ := hrel
    by_cases hlt : i < s.size
    · have HST := Lib.hid (take_snoc s i hlt)
      have HMEM := Lib.hid (show s[i] ∈ s.data.toList from List.getElem_mem (l := s.data.toList) (by simpa using hlt))
      obtain ⟨c, hc⟩ : ∃ c, c = s[i] := ⟨_, rfl⟩
      rw [← hc] at HST HMEM
      have HCC := Lib.hid hc
      clear hc
      go_wp2
      go_loopw [6, 7] (fun okv kv wr => ∃ (k : Nat) (ok : Bool), kv = .int .i64 k ∧ k ≤ a.size ∧ okv = .bool ok ∧ Hid (ok = (a.data.toList.take k).any (· == c)) ∧ Hid (Below w.heap.size w wr)) (fun _ kv _ => a.size - (intOf kv).toNat)
      case atStart => exact ⟨0, false, rfl, by omega, rfl, Lib.hid (by simp), HB⟩
      case round =>
        clear HB
        obtain ⟨k, ok, rfl, hk, rfl, HK, HB⟩ := hrel
        by_cases hkt : k < a.size
        · have HNT := Lib.hid (any_take_succ a c k hkt)
          rcases ok with _ | _
          · obtain ⟨r, hr⟩ : ∃ r, r = (a[k] == c) := ⟨_, rfl⟩
            have t1 : ((a[k].toNat : Int) == (s[i].toNat : Int)) = r := by rw [hr, HCC.out, u8_beq]
            have HR := Lib.hid hr
            clear hr
            go_wp2
            go_quiet (fail)
            go_wp2
            exact ⟨⟨k + 1, r, by go_num, by omega, rfl, Lib.hid (by rw [HNT.out, ← HK.out, ← HR.out]; rfl), Lib.hid (below_drewN HB.out _)⟩, by simp [intOf]; omega⟩
          · go_wp2
            go_quiet (fail)
            go_wp2
            exact ⟨⟨k + 1, true, by go_num, by omega, rfl, Lib.hid (by rw [HNT.out, ← HK.out]; rfl), Lib.hid (below_drewN HB.out _)⟩, by simp [intOf]; omega⟩
        · obtain rfl : k = a.size := by omega
          have hok : ok = a.data.toList.contains c := by
            rw [HK.out, List.take_of_length_le (by simp)]
            exact List.any_beq'
          have HOK := Lib.hid hok
          clear hok
          rcases ok with _ | _
          · go_wp2
            go_ret
            refine ⟨?_, HB.out⟩
            rw [show amongB s a = false from List.all_eq_false.2 ⟨c, HMEM.out, by rw [← HOK.out]; decide⟩]
            rfl
          · go_wp2
            refine ⟨⟨i + 1, by go_num, by omega, Lib.hid (fun x hx => ?_), HB⟩, by simp [intOf]; omega⟩
            rw [HST.out] at hx
            rcases List.mem_append.1 hx with hx | hx
            · exact HI.out x hx
            · simp at hx; subst hx; exact HOK.out.symm
    · obtain rfl : i = s.size := by omega
      go_wp2
      go_ret
      refine ⟨?_, HB.out⟩
      rw [show amongB s a = true from List.all_eq_true.2 (by have := HI.out; rwa [List.take_of_length_le (by simp)] at this)]
      rfl
end Go.Proofs.Ytaghjiffmondjaa
