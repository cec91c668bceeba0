/-
  The document answer: new, keys.
-/
import Derived.Test.YtfkdmbiejledoaaR5
set_option linter.unusedVariables false
set_option linter.unusedSimpArgs false
namespace Go.Proofs.Ytfkdmbiejledoaa
open Go.RowKit


set_option maxRecDepth 100000 in
theorem newR_no (most : Int) (h : most < 0 ∨ 4096 < most) (w : World) : Calls Try.prog 27 #[.int .i64 most] w fun r w' => r = .returned (.pointer none) ∧ w = w' := by
  go_enter Try.func27, Try.ntmps27
  by_cases h0 : most < 0
  · have t0 : decide (most < 0) = true := decide_eq_true h0
    go_wp2
    go_ret
    exact ⟨rfl, rfl⟩
  · have t0 : decide (most < 0) = false := decide_eq_false h0
    have t1 : decide (4096 < most) = true := decide_eq_true (by omega)
    go_wp2
    go_ret
    exact ⟨rfl, rfl⟩
set_option maxRecDepth 100000 in
theorem newR (most : Int) (h0 : 0 ≤ most) (h1 : most ≤ 4096) (w : World) :
    Calls Try.prog 27 #[.int .i64 most] w fun x w' => ∃ r fp, x = .returned (ptr r) ∧ RObj w' r most [] 0 0 0 fp ∧ (∀ b, fp b → w.heap.size ≤ b) ∧ Below w.heap.size w w' := by
  have t0 : decide (most < 0) = false := decide_eq_false (by omega)
  have t1 : decide (4096 < most) = false := decide_eq_false (by omega)
  clear h0 h1
  go_enter Try.func27, Try.ntmps27
  go_wp2
  go_ret
  refine ⟨w.heap.size, fun b => b = w.heap.size, rfl, ⟨⟨.slice none 0 0, .slice none 0 0, ⟨(MapKept.heap_alloc w _).1, SlIn.nil _, SlIn.nil _, rfl, fun b hb => ?_⟩⟩, by simp⟩, fun b hb => ?_, (Below.refl _ _).alloc (Nat.le_refl _) _⟩
  · rw [hb]; simp
  · rw [hb]; exact Nat.le_refl _
section
variable {w w' : World} {r : Nat} {most hits misses gone : Int} {es : Es} {fp : Nat → Prop}
set_option maxRecDepth 100000 in
theorem keysR (H : RObj w r most es hits misses gone fp) (hl : es.length ≤ 1000000) :
    Calls Try.prog 42 #[ptr r] w fun x w' => ∃ u, x = .returned u ∧ SlIn w' u ((es.map (·.1)).map Value.string) (w.heap.size ≤ ·) ∧ Below w.heap.size w w' := by
  obtain ⟨i0, hi0, hz0, hz1, hz2⟩ := info_parts info9
  obtain ⟨⟨Kv, Vv, hr⟩, hn⟩ := H
  obtain ⟨ks, hks⟩ : ∃ ks, ks = es.map (·.1) := ⟨_, rfl⟩
  have hkl : ks.length ≤ 1000000 := by rw [hks, List.length_map]; exact hl
  rw [← hks] at hr ⊢
  clear hks hn hl
  obtain ⟨A, cap, rfl, hcap, hc⟩ := hr.kin.strs
  have HC := Lib.hid hc
  have c1 : w.cell? ⟨r, 1, none⟩ = _ := hr.field (i := 1) (by decide)
  simp only [List.getElem_toArray, List.getElem_cons_succ, List.getElem_cons_zero] at c1
  clear hc hr
  have HK : Hid (w.ownsRow w.heap.size 9 1 (.slice none 0 0) 0 []) := Lib.hid (World.ownsRow_nil _ _ _ _)
  go_enter Try.func42, Try.ntmps42
  by_cases h0 : ks.length = 0
  · obtain rfl : ks = [] := List.eq_nil_of_length_eq_zero h0
    clear h0
    go_wp2_with (at_builtin; refine wpList_append_zero rfl (.const (.slice none 0 0)) (.tmp 6) 30 rfl w.heap.size 9 i0 1 Try.underlying30 hi0 _ 0 _ rfl HK.out A cap rfl ?_)
    go_ret
    exact ⟨_, rfl, SlIn.nil _, Below.refl _ _⟩
  · obtain ⟨kb, ko, rfl, hkb, hC1⟩ := HC.out (by omega)
    have HNK := Lib.hid (show ∀ (j : Nat) u, (ks.map Value.string)[j]? = some u → w.cell? ((⟨kb, ko, none⟩ : Addr).add j) = some u from fun j u hu => by
      obtain ⟨hj, e⟩ := List.getElem?_eq_some_iff.1 hu
      rw [List.length_map] at hj
      rw [show (⟨kb, ko, none⟩ : Addr).add j = ⟨kb, ko + j, none⟩ by simp [Addr.add], hC1 j hj, ← e]
      simp)
    clear hC1
    go_wp2_with (at_builtin; refine wpList_append_lies _ rfl (.const (.slice none 0 0)) (.tmp 6) 30 rfl w.heap.size 9 i0 (.string ⟨#[]⟩) 1 16 Try.underlying30 hi0 hz0 hz1 hz2 rfl (by decide) _ 0 [] rfl HK.out ⟨kb, ko, none⟩ ks.length cap (ks.map Value.string) rfl (by rw [List.length_map, Nat.mul_one]) HNK.out (by intro u hu; obtain ⟨x, _, rfl⟩ := List.mem_map.1 hu; rfl) (by omega) (by unfold maxLen; omega) (by omega) (Nat.le_refl _) _ rfl ?_)
    intro g capg w2 hown hgrow hat hltg
    have HB2 := Lib.hid ((Below.refl w.heap.size w).grown hgrow (Nat.le_refl _) (fun k hk => by cases hk))
    have HO := Lib.hid (SlIn.of_own hown)
    clear hown hgrow hat hltg
    go_wp2
    go_ret
    exact ⟨_, rfl, HO.out, HB2.out⟩
end
end Go.Proofs.Ytfkdmbiejledoaa
