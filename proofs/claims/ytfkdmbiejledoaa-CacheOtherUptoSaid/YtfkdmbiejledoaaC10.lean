/-
  used, without.
-/
import Derived.Test.YtfkdmbiejledoaaC9
set_option linter.unusedVariables false
set_option linter.unusedSimpArgs false
namespace Go.Proofs.Ytfkdmbiejledoaa
open Go.RowKit


def filt (xs : List ByteArray) (k : ByteArray) : List ByteArray := xs.filter fun x => !decide (x = k)
theorem filt_yes {xs : List ByteArray} {k x : ByteArray} (ys : List ByteArray) (h : x = k) : filt (xs ++ [x]) k = filt xs k := by
  unfold filt; rw [List.filter_append]; simp [h]
theorem filt_no {xs : List ByteArray} {k x : ByteArray} (ys : List ByteArray) (h : ¬ x = k) : filt (xs ++ [x]) k = filt xs k ++ [x] := by
  unfold filt; rw [List.filter_append]; simp [h]
theorem own_made1 (w : World) (x : ByteArray) : (w.alloc (.cells #[.string x] 9)).ownsRow w.heap.size 9 1 (.slice (some ⟨w.heap.size, 0, none⟩) 1 1) 1 [.string x] :=
  ⟨rfl, .inr ⟨w.heap.size, 1, #[.string x], rfl, Nat.le_refl _, (MapKept.heap_alloc w _).1, Nat.le_refl _, by unfold maxLen; omega, rfl, rfl⟩⟩

set_option maxHeartbeats 1000000 in
set_option maxRecDepth 100000 in
theorem used_calls (xs : List ByteArray) (k : ByteArray) (v : Value) (w : World) (B : Nat → Prop) (h : SlIn w v (xs.map Value.string) B) (hl : xs.length ≤ 1000000) :
    Calls Try.prog 17 #[v, .string k] w fun r w' => ∃ u, r = .returned u ∧ w'.ownsRow w.heap.size 9 1 u (k :: filt xs k).length ((k :: filt xs k).map Value.string) ∧ Below w.heap.size w w' := by
  obtain ⟨i0, hi, hz0, hz1, hz2⟩ := info_parts info9
  obtain ⟨A, cap, rfl, hc, h⟩ := h.strs
  have HC := Lib.hid h
  clear h
  have HI0 := Lib.hid (own_made1 w k)
  have HIB := Lib.hid ((Below.refl w.heap.size w).alloc (Nat.le_refl _) (.cells #[.string k] 9))
  go_enter Try.func17, Try.ntmps17
  go_wp2
  go_loopw [5, 6] (fun ov iv wr => ∃ i : Nat, iv = .int .i64 i ∧ i ≤ xs.length ∧ Hid ((k :: filt (xs.take i) k).length ≤ i + 1) ∧ Hid (wr.ownsRow w.heap.size 9 1 ov (k :: filt (xs.take i) k).length ((k :: filt (xs.take i) k).map Value.string)) ∧ Hid (Below w.heap.size w wr)) (fun _ iv _ => xs.length - (intOf iv).toNat)
  case atStart => exact ⟨0, rfl, by omega, Lib.hid (by simp [filt]), HI0, HIB⟩
  case round =>
    obtain ⟨i, rfl, hi', HN, HO, HB⟩ := hrel
    by_cases hlt : i < xs.length
    · obtain ⟨b, o, rfl, hb, hC1⟩ := HC.out (by omega)
      have c0 : wr.cell? ⟨b, o + i, none⟩ = some (.string xs[i]) := by rw [HB.out.cell hb]; exact hC1 i hlt
      clear hC1
      have HT := Lib.hid (show xs.take (i + 1) = xs.take i ++ [xs[i]] from List.take_succ_eq_append_getElem hlt)
      obtain ⟨x, hx⟩ : ∃ x, x = xs[i] := ⟨_, rfl⟩
      rw [← hx] at c0 HT
      clear hx
      by_cases he : x = k
      · have t1 : (x.toList == k.toList) = true := by rw [he]; exact str_eq k
        have HE := Lib.hid (show k :: filt (xs.take (i + 1)) k = k :: filt (xs.take i) k by rw [HT.out, filt_yes xs he])
        clear he
        go_wp2
        exact ⟨⟨i + 1, by go_num, by omega, Lib.hid (by rw [HE.out]; have := HN.out; omega), Lib.hid (by rw [HE.out]; exact HO.out), HB⟩, by simp [intOf]; omega⟩
      · have t1 := str_ne he
        have HE := Lib.hid (show k :: filt (xs.take (i + 1)) k = (k :: filt (xs.take i) k) ++ [x] by rw [HT.out, filt_no xs he]; rfl)
        clear he
        obtain ⟨ys, hys⟩ : ∃ ys, ys = k :: filt (xs.take i) k := ⟨_, rfl⟩
        rw [← hys] at HO HE HN
        clear hys
        go_wp2_with (at_builtin; refine wpList_append_lies _ rfl (.tmp 21) (.tmp 26) 30 rfl w.heap.size 9 i0 (.string ⟨#[]⟩) 1 16 Try.underlying30 hi hz0 hz1 hz2 rfl (by decide) _ _ _ rfl (HO.out.alloc _) ⟨wr.heap.size, 0, none⟩ 1 1 [Value.string x] rfl rfl (World.news_of_block (MapKept.heap_alloc _ _).1) (by intro u hu; simp at hu; subst hu; rfl) (by decide) (by have := HN.out; unfold maxLen; omega) (by have := HN.out; omega) (by have := HB.out.size; simp; omega) _ rfl ?_)
        intro g cap2 w2 hown2 hgrow hat hltg
        have HB2 := Lib.hid ((HB.out.alloc HB.out.size _).grown hgrow (by have := HB.out.size; simp; omega) (fun k hk => (HO.out.lt k hk).1))
        have HO2 : Hid (w2.ownsRow w.heap.size 9 1 (.slice (some ⟨g, 0, none⟩) (ys.length + 1) cap2) (ys ++ [x]).length ((ys ++ [x]).map Value.string)) := Lib.hid (by rw [List.length_append, List.map_append]; exact hown2)
        clear hown2 hgrow hat hltg
        go_wp2
        exact ⟨⟨i + 1, by go_num, by omega, Lib.hid (by rw [HE.out, List.length_append]; have := HN.out; simp; omega), Lib.hid (by rw [HE.out]; exact HO2.out), HB2⟩, by simp [intOf]; omega⟩
    · obtain rfl : i = xs.length := by omega
      have HE := Lib.hid (show xs.take xs.length = xs from List.take_length)
      go_wp2
      go_ret
      refine ⟨_, rfl, ?_, HB.out⟩
      have := HO.out
      rw [HE.out] at this
      exact this

set_option maxHeartbeats 1000000 in
set_option maxRecDepth 100000 in
theorem without_calls (xs : List ByteArray) (k : ByteArray) (v : Value) (w : World) (B : Nat → Prop) (h : SlIn w v (xs.map Value.string) B) (hl : xs.length ≤ 1000000) :
    Calls Try.prog 24 #[v, .string k] w fun r w' => ∃ u, r = .returned u ∧ w'.ownsRow w.heap.size 9 1 u (filt xs k).length ((filt xs k).map Value.string) ∧ Below w.heap.size w w' := by
  obtain ⟨i0, hi, hz0, hz1, hz2⟩ := info_parts info9
  obtain ⟨A, cap, rfl, hc, h⟩ := h.strs
  have HC := Lib.hid h
  clear h
  skip
  go_enter Try.func24, Try.ntmps24
  go_wp2
  go_loopw [5, 6] (fun ov iv wr => ∃ i : Nat, iv = .int .i64 i ∧ i ≤ xs.length ∧ Hid ((filt (xs.take i) k).length ≤ i + 1) ∧ Hid (wr.ownsRow w.heap.size 9 1 ov (filt (xs.take i) k).length ((filt (xs.take i) k).map Value.string)) ∧ Hid (Below w.heap.size w wr)) (fun _ iv _ => xs.length - (intOf iv).toNat)
  case atStart => exact ⟨0, rfl, by omega, Lib.hid (by simp [filt]), Lib.hid (World.ownsRow_nil _ _ _ _), Lib.hid (Below.refl _ _)⟩
  case round =>
    obtain ⟨i, rfl, hi', HN, HO, HB⟩ := hrel
    by_cases hlt : i < xs.length
    · obtain ⟨b, o, rfl, hb, hC1⟩ := HC.out (by omega)
      have c0 : wr.cell? ⟨b, o + i, none⟩ = some (.string xs[i]) := by rw [HB.out.cell hb]; exact hC1 i hlt
      clear hC1
      have HT := Lib.hid (show xs.take (i + 1) = xs.take i ++ [xs[i]] from List.take_succ_eq_append_getElem hlt)
      obtain ⟨x, hx⟩ : ∃ x, x = xs[i] := ⟨_, rfl⟩
      rw [← hx] at c0 HT
      clear hx
      by_cases he : x = k
      · have t1 : (x.toList == k.toList) = true := by rw [he]; exact str_eq k
        have HE := Lib.hid (show filt (xs.take (i + 1)) k = filt (xs.take i) k by rw [HT.out, filt_yes xs he])
        clear he
        go_wp2
        exact ⟨⟨i + 1, by go_num, by omega, Lib.hid (by rw [HE.out]; have := HN.out; omega), Lib.hid (by rw [HE.out]; exact HO.out), HB⟩, by simp [intOf]; omega⟩
      · have t1 := str_ne he
        have HE := Lib.hid (show filt (xs.take (i + 1)) k = (filt (xs.take i) k) ++ [x] by rw [HT.out, filt_no xs he])
        clear he
        obtain ⟨ys, hys⟩ : ∃ ys, ys = filt (xs.take i) k := ⟨_, rfl⟩
        rw [← hys] at HO HE HN
        clear hys
        go_wp2_with (at_builtin; refine wpList_append_lies _ rfl (.tmp 19) (.tmp 24) 30 rfl w.heap.size 9 i0 (.string ⟨#[]⟩) 1 16 Try.underlying30 hi hz0 hz1 hz2 rfl (by decide) _ _ _ rfl (HO.out.alloc _) ⟨wr.heap.size, 0, none⟩ 1 1 [Value.string x] rfl rfl (World.news_of_block (MapKept.heap_alloc _ _).1) (by intro u hu; simp at hu; subst hu; rfl) (by decide) (by have := HN.out; unfold maxLen; omega) (by have := HN.out; omega) (by have := HB.out.size; simp; omega) _ rfl ?_)
        intro g cap2 w2 hown2 hgrow hat hltg
        have HB2 := Lib.hid ((HB.out.alloc HB.out.size _).grown hgrow (by have := HB.out.size; simp; omega) (fun k hk => (HO.out.lt k hk).1))
        have HO2 : Hid (w2.ownsRow w.heap.size 9 1 (.slice (some ⟨g, 0, none⟩) (ys.length + 1) cap2) (ys ++ [x]).length ((ys ++ [x]).map Value.string)) := Lib.hid (by rw [List.length_append, List.map_append]; exact hown2)
        clear hown2 hgrow hat hltg
        go_wp2
        exact ⟨⟨i + 1, by go_num, by omega, Lib.hid (by rw [HE.out, List.length_append]; have := HN.out; simp; omega), Lib.hid (by rw [HE.out]; exact HO2.out), HB2⟩, by simp [intOf]; omega⟩
    · obtain rfl : i = xs.length := by omega
      have HE := Lib.hid (show xs.take xs.length = xs from List.take_length)
      go_wp2
      go_ret
      refine ⟨_, rfl, ?_, HB.out⟩
      have := HO.out
      rw [HE.out] at this
      exact this
end Go.Proofs.Ytfkdmbiejledoaa
