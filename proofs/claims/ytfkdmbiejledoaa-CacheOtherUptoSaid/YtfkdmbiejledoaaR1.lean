/-
  The document answer: out.
-/
import Derived.Test.YtfkdmbiejledoaaR0
import Derived.Test.YtfkdmbiejledoaaC10
set_option linter.unusedVariables false
set_option linter.unusedSimpArgs false
namespace Go.Proofs.Ytfkdmbiejledoaa
open Go.RowKit


theorem erase_step {α : Type} (l : List α) {i j : Nat} (x : α) (hl : l.length = j) (h : j ≠ i) : (l ++ [x]).eraseIdx i = l.eraseIdx i ++ [x] := by
  by_cases h1 : i < j
  · rw [List.eraseIdx_append_of_lt_length (by omega)]
  · rw [List.eraseIdx_of_length_le (by simp; omega), List.eraseIdx_of_length_le (by omega)]
theorem erase_at {α : Type} (l : List α) (x : α) : (l ++ [x]).eraseIdx l.length = l := by
  rw [List.eraseIdx_append_of_length_le (Nat.le_refl _)]; simp
set_option maxHeartbeats 1000000 in
set_option maxRecDepth 100000 in
theorem out_calls {w : World} {r : Nat} {most hits misses gone : Int} {Kv Vv : Value} {ks vs : List ByteArray} {fp : Nat → Prop} (i : Nat) (H : RRep w r most Kv Vv ks vs hits misses gone fp) (hl : ks.length ≤ 1000000) (hlv : vs.length = ks.length) (hi : i < ks.length) :
    Calls Try.prog 54 #[ptr r, .int .i64 i] w fun x w' => x = .returned (.tuple #[]) ∧ ∃ Kv' Vv' fp', RRep w' r most Kv' Vv' (ks.eraseIdx i) (vs.eraseIdx i) hits misses gone fp' ∧ Turn fp w w' ∧ ∀ b, fp' b → fp b ∨ w.heap.size ≤ b := by
  obtain ⟨i0, hi0, hz0, hz1, hz2⟩ := info_parts info9
  have HR := Lib.hid H
  obtain ⟨A, cap, rfl, hc, h⟩ := H.kin.strs
  have HC := Lib.hid h
  obtain ⟨A2, cap2, rfl, hc2, h2⟩ := H.vin.strs
  have HC2 := Lib.hid h2
  have HLV := Lib.hid hlv
  clear h h2 H
  go_enter Try.func54, Try.ntmps54
  go_wp2
  go_loopw [4, 5, 6] (fun kv vv iv wr => ∃ j : Nat, iv = .int .i64 j ∧ j ≤ ks.length ∧ Hid (((ks.take j).eraseIdx i).length ≤ j ∧ ((vs.take j).eraseIdx i).length ≤ j) ∧ Hid (wr.ownsRow w.heap.size 9 1 kv ((ks.take j).eraseIdx i).length (((ks.take j).eraseIdx i).map Value.string)) ∧ Hid (wr.ownsRow w.heap.size 9 1 vv ((vs.take j).eraseIdx i).length (((vs.take j).eraseIdx i).map Value.string)) ∧ Hid (∀ b, kv.ownBlock = some b → vv.ownBlock ≠ some b) ∧ Hid (Below w.heap.size w wr)) (fun _ _ iv _ => ks.length - (intOf iv).toNat)
  case atStart => exact ⟨0, rfl, by omega, Lib.hid (by simp), Lib.hid (World.ownsRow_nil _ _ _ _), Lib.hid (World.ownsRow_nil _ _ _ _), Lib.hid (fun b h => by cases h), Lib.hid (Below.refl _ _)⟩
  case round =>
    obtain ⟨j, rfl, hj, HN, HK, HV, HD, HB⟩ := hrel
    have HRr := Lib.hid (HR.out.below HB.out)
    have f1 : wr.cell? ⟨r, 1, none⟩ = some (.slice A ks.length cap) := HRr.out.field (by decide)
    by_cases hlt : j < ks.length
    · by_cases he : j = i
      · subst he
        have HE1 := Lib.hid (show (ks.take (j + 1)).eraseIdx j = (ks.take j).eraseIdx j by
          rw [List.take_succ_eq_append_getElem hlt]
          have hlen : (ks.take j).length = j := by rw [List.length_take]; omega
          have h1 := erase_at (ks.take j) ks[j]
          rw [hlen] at h1
          rw [h1, List.eraseIdx_of_length_le (by omega)])
        have hltv : j < vs.length := by have := HLV.out; omega
        have HE2 := Lib.hid (show (vs.take (j + 1)).eraseIdx j = (vs.take j).eraseIdx j by
          rw [List.take_succ_eq_append_getElem hltv]
          have hlen : (vs.take j).length = j := by rw [List.length_take]; omega
          have h1 := erase_at (vs.take j) vs[j]
          rw [hlen] at h1
          rw [h1, List.eraseIdx_of_length_le (by omega)])
        clear hltv
        go_wp2
        exact ⟨⟨j + 1, by go_num, by omega, Lib.hid (by rw [HE1.out, HE2.out]; have := HN.out; omega), Lib.hid (by rw [HE1.out]; exact HK.out), Lib.hid (by rw [HE2.out]; exact HV.out), HD, HB⟩, by simp [intOf]; omega⟩
      · have t1 : ((j : Int) == (i : Int)) = false := by rw [beq_eq_false_iff_ne]; omega
        obtain ⟨kb, ko, rfl, hkb, hC1⟩ := HC.out (by omega)
        have hltv : j < vs.length := by have := HLV.out; omega
        obtain ⟨vb, vo, rfl, hvb, hC2⟩ := HC2.out (by omega)
        have c0 : wr.cell? ⟨kb, ko + j, none⟩ = some (.string ks[j]) := by rw [HB.out.cell hkb]; exact hC1 j hlt
        have HC0 := Lib.hid (show wr.cell? ⟨vb, vo + j, none⟩ = some (.string vs[j]) by rw [HB.out.cell hvb]; exact hC2 j hltv)
        have HE1 := Lib.hid (show (ks.take (j + 1)).eraseIdx i = (ks.take j).eraseIdx i ++ [ks[j]] by
          rw [List.take_succ_eq_append_getElem hlt]
          exact erase_step _ _ (by rw [List.length_take]; omega) he)
        have HE2 := Lib.hid (show (vs.take (j + 1)).eraseIdx i = (vs.take j).eraseIdx i ++ [vs[j]] by
          rw [List.take_succ_eq_append_getElem hltv]
          exact erase_step _ _ (by rw [List.length_take]; omega) he)
        obtain ⟨x, hx⟩ : ∃ x, x = ks[j] := ⟨_, rfl⟩
        obtain ⟨y, hy⟩ : ∃ y, y = vs[j] := ⟨_, rfl⟩
        rw [← hx] at c0 HE1
        rw [← hy] at HC0 HE2
        clear hx hy hC1 hC2 he
        obtain ⟨xs, hxs⟩ : ∃ xs, xs = (ks.take j).eraseIdx i := ⟨_, rfl⟩
        obtain ⟨ys, hys⟩ : ∃ ys, ys = (vs.take j).eraseIdx i := ⟨_, rfl⟩
        rw [← hxs] at HK HE1 HN
        rw [← hys] at HV HE2 HN
        clear hxs hys
        have HS := Lib.hid HB.out.size
        have HJ := Lib.hid (show j ≤ 1000000 by omega)
        go_wp2_with (at_builtin; refine wpList_append_lies _ rfl (.tmp 19) (.tmp 27) 30 rfl w.heap.size 9 i0 (.string ⟨#[]⟩) 1 16 Try.underlying30 hi0 hz0 hz1 hz2 rfl (by decide) _ _ _ rfl (HK.out.alloc _) ⟨wr.heap.size, 0, none⟩ 1 1 [Value.string x] rfl rfl (World.news_of_block (MapKept.heap_alloc _ _).1) (by intro u hu; simp at hu; subst hu; rfl) (by decide) (by have := HN.out; have := HJ.out; unfold maxLen; omega) (by have := HN.out; have := HJ.out; omega) (by have := HS.out; simp; omega) _ rfl ?_)
        intro g capg w2 hown hgrow hat hltg
        have HB2 := Lib.hid ((HB.out.alloc HB.out.size _).grown hgrow (by have := HB.out.size; simp; omega) (fun k hk => (HK.out.lt k hk).1))
        have HK2 : Hid (w2.ownsRow w.heap.size 9 1 (.slice (some ⟨g, 0, none⟩) (xs.length + 1) capg) (xs ++ [x]).length ((xs ++ [x]).map Value.string)) := Lib.hid (by rw [List.length_append, List.map_append]; exact hown)
        have HV2 := Lib.hid ((HV.out.alloc (.cells #[.string x] 9)).kept hgrow (by
          cases hv : Value.ownBlock u5 with
          | none => exact .inl rfl
          | some b => exact .inr fun h => HD.out b h.symm (by first | exact hv | rfl)))
        have HD2 := Lib.hid (show u5.ownBlock ≠ some g from fun h => by
          rcases hat with h1 | h1
          · exact HD.out g h1 h
          · have := (HV.out.lt g h).2; omega)
        have HR2 := Lib.hid (HR.out.below HB2.out)
        have f2 : w2.cell? ⟨r, 2, none⟩ = some (.slice (some ⟨vb, vo, none⟩) vs.length cap2) := HR2.out.field (by decide)
        have d0 : w2.cell? ⟨vb, vo + j, none⟩ = some (.string y) := by rw [HB2.out.cell hvb, ← HB.out.cell hvb]; exact HC0.out
        clear hown hgrow hat hltg f1 c0 HRr
        go_wp2_with (at_builtin; refine wpList_append_lies _ rfl (.tmp 29) (.tmp 37) 30 rfl w.heap.size 9 i0 (.string ⟨#[]⟩) 1 16 Try.underlying30 hi0 hz0 hz1 hz2 rfl (by decide) _ _ _ rfl (HV2.out.alloc _) ⟨w2.heap.size, 0, none⟩ 1 1 [Value.string y] rfl rfl (World.news_of_block (MapKept.heap_alloc _ _).1) (by intro u hu; simp at hu; subst hu; rfl) (by decide) (by have := HN.out; have := HJ.out; unfold maxLen; omega) (by have := HN.out; have := HJ.out; omega) (by have := HB2.out.size; simp; omega) _ rfl ?_)
        intro g2 capg2 w3 hown hgrow hat hltg
        have HB3 := Lib.hid ((HB2.out.alloc HB2.out.size _).grown hgrow (by have := HB2.out.size; simp; omega) (fun k hk => (HV2.out.lt k hk).1))
        have HV3 : Hid (w3.ownsRow w.heap.size 9 1 (.slice (some ⟨g2, 0, none⟩) (ys.length + 1) capg2) (ys ++ [y]).length ((ys ++ [y]).map Value.string)) := Lib.hid (by rw [List.length_append, List.map_append]; exact hown)
        have HK3 := Lib.hid ((HK2.out.alloc (.cells #[.string y] 9)).kept hgrow (.inr fun h => HD2.out h.symm))
        have HD3 := Lib.hid (show ∀ b, (Value.slice (some ⟨g, 0, none⟩) (xs.length + 1) capg).ownBlock = some b → (Value.slice (some ⟨g2, 0, none⟩) (ys.length + 1) capg2).ownBlock ≠ some b from fun b h1 h2 => by
          have e1 : g = b := Option.some.inj h1
          have e2 : g2 = b := Option.some.inj h2
          rcases hat with h3 | h3
          · exact HD2.out (by rw [h3]; congr 1; omega)
          · have h4 := (HK2.out.lt g rfl).2
            omega)
        clear hown hgrow hat hltg f2 d0 HR2
        go_wp2
        exact ⟨⟨j + 1, by go_num, by omega, Lib.hid (by rw [HE1.out, HE2.out]; simp only [List.length_append, List.length_singleton]; have := HN.out; omega), Lib.hid (by rw [HE1.out]; exact HK3.out), Lib.hid (by rw [HE2.out]; exact HV3.out), HD3, HB3⟩, by simp [intOf]; omega⟩
    · obtain rfl : j = ks.length := by omega
      obtain ⟨A3, cap3, e3, _⟩ := SlIn.of_own HK.out
      obtain ⟨A4, cap4, e4, _⟩ := SlIn.of_own HV.out
      obtain ⟨n3, hn3⟩ : ∃ n, n = (((ks.take ks.length).eraseIdx i).map Value.string).length := ⟨_, rfl⟩
      obtain ⟨n4, hn4⟩ : ∃ n, n = (((vs.take ks.length).eraseIdx i).map Value.string).length := ⟨_, rfl⟩
      rw [← hn3] at e3
      rw [← hn4] at e4
      clear hn3 hn4
      subst e3 e4
      have z1 : wr.frozen? ⟨r, 1, none⟩ = false := frozen_of_block HRr.out.blk
      have HF := Lib.hid (HR.out.turned HB.out HK.out HV.out)
      have hb1 := block_setCell (off := 1) HRr.out.blk (.slice A3 n3 cap3)
      have z2 : (wr.setCell ⟨r, 1, none⟩ (.slice A3 n3 cap3)).frozen? ⟨r, 2, none⟩ = false := frozen_of_block hb1
      have g2 : (wr.setCell ⟨r, 1, none⟩ (.slice A3 n3 cap3)).cell? ⟨r, 2, none⟩ = some (.slice A2 vs.length cap2) := cell_of_block hb1 (by show 2 < 6; decide)
      have HT1 := Lib.hid (show ks.take ks.length = ks from List.take_length)
      have HT2 := Lib.hid (show vs.take ks.length = vs by rw [← HLV.out]; exact List.take_length)
      clear hb1
      go_wp2
      go_end0
      refine ⟨rfl, .slice A3 n3 cap3, .slice A4 n4 cap4, ?_⟩
      have h := HF.out
      rw [HT1.out, HT2.out] at h
      exact h
end Go.Proofs.Ytfkdmbiejledoaa
