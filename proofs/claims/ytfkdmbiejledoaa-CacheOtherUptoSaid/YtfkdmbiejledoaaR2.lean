/-
  The document answer: newest.
-/
import Derived.Test.YtfkdmbiejledoaaR0
import Derived.Test.YtfkdmbiejledoaaC10
set_option linter.unusedVariables false
set_option linter.unusedSimpArgs false
namespace Go.Proofs.Ytfkdmbiejledoaa
open Go.RowKit


theorem own_made2 (w : World) (x : ByteArray) {base : Nat} (h : base ≤ w.heap.size) : (w.alloc (.cells #[.string x] 9)).ownsRow base 9 1 (.slice (some ⟨w.heap.size, 0, none⟩) 1 1) 1 [.string x] :=
  ⟨rfl, .inr ⟨w.heap.size, 1, #[.string x], rfl, h, (MapKept.heap_alloc w _).1, Nat.le_refl _, by unfold maxLen; omega, rfl, rfl⟩⟩
set_option maxHeartbeats 1000000 in
set_option maxRecDepth 100000 in
theorem newest_calls {w : World} {r : Nat} {most hits misses gone : Int} {Kv Vv : Value} {ks vs : List ByteArray} {fp : Nat → Prop} (k v : ByteArray) (H : RRep w r most Kv Vv ks vs hits misses gone fp) (hl : ks.length ≤ 1000000) (hlv : vs.length = ks.length) :
    Calls Try.prog 55 #[ptr r, .string k, .string v] w fun x w' => x = .returned (.tuple #[]) ∧ ∃ Kv' Vv' fp', RRep w' r most Kv' Vv' (k :: ks) (v :: vs) hits misses gone fp' ∧ Turn fp w w' ∧ ∀ b, fp' b → fp b ∨ w.heap.size ≤ b := by
  obtain ⟨i0, hi0, hz0, hz1, hz2⟩ := info_parts info9
  have HR := Lib.hid H
  obtain ⟨A, cap, rfl, hc, h⟩ := H.kin.strs
  have HC := Lib.hid h
  obtain ⟨A2, cap2, rfl, hc2, h2⟩ := H.vin.strs
  have HC2 := Lib.hid h2
  have HLV := Lib.hid hlv
  clear h h2 H hlv
  obtain ⟨w1, hw1⟩ : ∃ w1, w1 = w.alloc (.cells #[.string k] 9) := ⟨_, rfl⟩
  obtain ⟨w2, hw2⟩ : ∃ w2, w2 = w1.alloc (.cells #[.string v] 9) := ⟨_, rfl⟩
  have hs1 : w1.heap.size = w.heap.size + 1 := by rw [hw1]; simp
  have hs2 : w2.heap.size = w.heap.size + 2 := by rw [hw2]; simp [hs1]
  have HK := Lib.hid (show w2.ownsRow w.heap.size 9 1 (.slice (some ⟨w.heap.size, 0, none⟩) 1 1) 1 [.string k] by rw [hw2, hw1]; exact (own_made1 w k).alloc _)
  have HV := Lib.hid (show w2.ownsRow w.heap.size 9 1 (.slice (some ⟨w.heap.size + 1, 0, none⟩) 1 1) 1 [.string v] by rw [hw2, ← hs1]; exact own_made2 w1 v (by omega))
  have HB := Lib.hid (show Below w.heap.size w w2 by rw [hw2, hw1]; exact ((Below.refl _ _).alloc (Nat.le_refl _) _).alloc (by simp) _)
  have HR2 := Lib.hid (HR.out.below HB.out)
  have f1 : w2.cell? ⟨r, 1, none⟩ = some (.slice A ks.length cap) := HR2.out.field (by decide)
  have HS := Lib.hid (And.intro hs1 hs2)
  go_enter Try.func55, Try.ntmps55
  go_upto_region 1 with (fail)
  rw [← hw1]
  clear hw1
  go_upto_region 2 with (fail)
  rw [← hw2]
  clear hw2 hs1 hs2
  by_cases h0 : ks.length = 0
  · have hk0 : ks = [] := List.eq_nil_of_length_eq_zero h0
    have hv0 : vs = [] := List.eq_nil_of_length_eq_zero (by have := HLV.out; omega)
    subst hk0 hv0
    clear h0
    have f2 : w2.cell? ⟨r, 2, none⟩ = some (.slice A2 0 cap2) := HR2.out.field (by decide)
    have z1 : w2.frozen? ⟨r, 1, none⟩ = false := frozen_of_block HR2.out.blk
    have HF := Lib.hid (HR.out.turned HB.out (ks' := [k]) (vs' := [v]) HK.out HV.out)
    have hb1 := block_setCell (off := 1) HR2.out.blk (.slice (some ⟨w.heap.size, 0, none⟩) 1 1)
    have z2 : (w2.setCell ⟨r, 1, none⟩ (.slice (some ⟨w.heap.size, 0, none⟩) 1 1)).frozen? ⟨r, 2, none⟩ = false := frozen_of_block hb1
    have g2 : (w2.setCell ⟨r, 1, none⟩ (.slice (some ⟨w.heap.size, 0, none⟩) 1 1)).cell? ⟨r, 2, none⟩ = some (.slice A2 0 cap2) := cell_of_block hb1 (by show 2 < 6; decide)
    clear hb1
    go_wp2_with (at_builtin; first | refine wpList_append_zero rfl (.tmp 12) (.tmp 16) 30 rfl w.heap.size 9 i0 1 Try.underlying30 hi0 _ 1 _ rfl HK.out A cap rfl ?_ | refine wpList_append_zero rfl (.tmp 18) (.tmp 22) 30 rfl w.heap.size 9 i0 1 Try.underlying30 hi0 _ 1 _ rfl HV.out A2 cap2 rfl ?_)
    go_end0
    exact ⟨rfl, _, _, HF.out⟩
  · have hv0 : 0 < vs.length := by have := HLV.out; omega
    obtain ⟨kb, ko, rfl, hkb, hC1⟩ := HC.out (by omega)
    obtain ⟨vb, vo, rfl, hvb, hC2⟩ := HC2.out hv0
    have HNK := Lib.hid (show ∀ (j : Nat) u, (ks.map Value.string)[j]? = some u → w2.cell? ((⟨kb, ko, none⟩ : Addr).add j) = some u from fun j u hu => by
      obtain ⟨hj, e⟩ := List.getElem?_eq_some_iff.1 hu
      rw [List.length_map] at hj
      rw [show (⟨kb, ko, none⟩ : Addr).add j = ⟨kb, ko + j, none⟩ by simp [Addr.add], HB.out.cell hkb, hC1 j hj, ← e]
      simp)
    have HNV := Lib.hid (show ∀ (j : Nat) u, (vs.map Value.string)[j]? = some u → w2.cell? ((⟨vb, vo, none⟩ : Addr).add j) = some u from fun j u hu => by
      obtain ⟨hj, e⟩ := List.getElem?_eq_some_iff.1 hu
      rw [List.length_map] at hj
      rw [show (⟨vb, vo, none⟩ : Addr).add j = ⟨vb, vo + j, none⟩ by simp [Addr.add], HB.out.cell hvb, hC2 j hj, ← e]
      simp)
    clear hC1 hC2
    go_wp2_with (at_builtin; refine wpList_append_lies _ rfl (.tmp 12) (.tmp 16) 30 rfl w.heap.size 9 i0 (.string ⟨#[]⟩) 1 16 Try.underlying30 hi0 hz0 hz1 hz2 rfl (by decide) _ 1 [.string k] rfl HK.out ⟨kb, ko, none⟩ ks.length cap (ks.map Value.string) rfl (by rw [List.length_map, Nat.mul_one]) HNK.out (by intro u hu; obtain ⟨x, _, rfl⟩ := List.mem_map.1 hu; rfl) (by omega) (by unfold maxLen; omega) (by omega) (by have := HS.out; omega) _ rfl ?_)
    intro g capg w3 hown hgrow hat hltg
    have HB3 := Lib.hid (HB.out.grown hgrow (by have := HS.out; omega) (fun k hk => (HK.out.lt k hk).1))
    have HK3 : Hid (w3.ownsRow w.heap.size 9 1 (.slice (some ⟨g, 0, none⟩) (1 + ks.length) capg) (1 + ks.length) ((k :: ks).map Value.string)) := Lib.hid hown
    have HV3 := Lib.hid (HV.out.kept hgrow (.inr fun h => by
      have e : w.heap.size + 1 = w.heap.size := Option.some.inj h
      have := HS.out; omega))
    have HR3 := Lib.hid (HR.out.below HB3.out)
    have HNV3 := Lib.hid (show ∀ (j : Nat) u, (vs.map Value.string)[j]? = some u → w3.cell? ((⟨vb, vo, none⟩ : Addr).add j) = some u from fun j u hu => by
      have h1 := HNV.out j u hu
      rw [show (⟨vb, vo, none⟩ : Addr).add j = ⟨vb, vo + j, none⟩ by simp [Addr.add]] at h1 ⊢
      rw [HB3.out.cell hvb, ← HB.out.cell hvb]; exact h1)
    have HD : Hid (g ≠ w.heap.size + 1) := Lib.hid (by
      rcases hat with h1 | h1
      · have e : w.heap.size = g := Option.some.inj h1
        have := HS.out; omega
      · have := HS.out; omega)
    have f2 : w3.cell? ⟨r, 2, none⟩ = some (.slice (some ⟨vb, vo, none⟩) vs.length cap2) := HR3.out.field (by decide)
    clear hown hgrow hat hltg f1 HR2 HNK HNV HV HK
    go_wp2_with (at_builtin; refine wpList_append_lies _ rfl (.tmp 18) (.tmp 22) 30 rfl w.heap.size 9 i0 (.string ⟨#[]⟩) 1 16 Try.underlying30 hi0 hz0 hz1 hz2 rfl (by decide) _ 1 [.string v] rfl HV3.out ⟨vb, vo, none⟩ vs.length cap2 (vs.map Value.string) rfl (by rw [List.length_map, Nat.mul_one]) HNV3.out (by intro u hu; obtain ⟨x, _, rfl⟩ := List.mem_map.1 hu; rfl) hv0 (by have := HLV.out; unfold maxLen; omega) (by have := HLV.out; omega) (by have := HB3.out.size; omega) _ rfl ?_)
    intro g2 capg2 w4 hown hgrow hat hltg
    have HB4 := Lib.hid (HB3.out.grown hgrow (by have := HB3.out.size; omega) (fun k hk => (HV3.out.lt k hk).1))
    have HV4 : Hid (w4.ownsRow w.heap.size 9 1 (.slice (some ⟨g2, 0, none⟩) (1 + vs.length) capg2) (1 + vs.length) ((v :: vs).map Value.string)) := Lib.hid hown
    have HK4 := Lib.hid (HK3.out.kept hgrow (.inr fun h => by
      have e : g = w.heap.size + 1 := Option.some.inj h
      exact HD.out e))
    have HR4 := Lib.hid (HR.out.below HB4.out)
    have z1 : w4.frozen? ⟨r, 1, none⟩ = false := frozen_of_block HR4.out.blk
    have HF := Lib.hid (HR.out.turned HB4.out (ks' := k :: ks) (vs' := v :: vs) HK4.out HV4.out)
    have hb1 := block_setCell (off := 1) HR4.out.blk (.slice (some ⟨g, 0, none⟩) (1 + ks.length) capg)
    have z2 : (w4.setCell ⟨r, 1, none⟩ (.slice (some ⟨g, 0, none⟩) (1 + ks.length) capg)).frozen? ⟨r, 2, none⟩ = false := frozen_of_block hb1
    have k1 : w4.cell? ⟨r, 1, none⟩ = some (.slice (some ⟨kb, ko, none⟩) ks.length cap) := HR4.out.field (by decide)
    have k2 : (w4.setCell ⟨r, 1, none⟩ (.slice (some ⟨g, 0, none⟩) (1 + ks.length) capg)).cell? ⟨r, 2, none⟩ = some (.slice (some ⟨vb, vo, none⟩) vs.length cap2) := cell_of_block hb1 (by show 2 < 6; decide)
    clear hown hgrow hat hltg f2 hb1 HR3
    go_wp2
    go_end0
    exact ⟨rfl, _, _, HF.out⟩
end Go.Proofs.Ytfkdmbiejledoaa
