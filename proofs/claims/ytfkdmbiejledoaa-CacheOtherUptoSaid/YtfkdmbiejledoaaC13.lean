/-
  tell, within.
-/
import Derived.Test.YtfkdmbiejledoaaP1
import Derived.Test.YtfkdmbiejledoaaG6
set_option linter.unusedVariables false
set_option linter.unusedSimpArgs false
namespace Go.Proofs.Ytfkdmbiejledoaa
open Go.RowKit


def OpVOk (x : OpV) : Prop := InI64 x.kind ∧ InI64 x.k ∧ x.val.size ≤ 1000000000
def OpV.val3 (x : OpV) : Value := .agg #[.int .i64 x.kind, .int .i64 x.k, .string x.val]
section
variable {w : World} {c : Nat} {n hits misses gn : Int} {es : Es} {fp : Nat → Prop}
set_option maxHeartbeats 4000000 in
set_option maxRecDepth 100000 in
theorem tell_calls (kd kk : Int) (val : ByteArray) (H : CObj IS w c n es hits misses gn fp) (hg : Good es n) (hn0 : 0 ≤ n) (hn1 : n ≤ 4096) (hkd : InI64 kd) (hkk : InI64 kk)
    (h1 : -1000000000 ≤ hits ∧ hits ≤ 1000000000) (h2 : -1000000000 ≤ misses ∧ misses ≤ 1000000000) (h3 : -1000000000 ≤ gn ∧ gn ≤ 1000000000) :
    Calls Try.prog 31 #[ptr c, .agg #[.int .i64 kd, .int .i64 kk, .string val]] w fun r w' => r = .returned (.tuple #[]) ∧
      ∃ fp', CObj IS w' c n (tellE es n kd (dkey kk) val) (hits + tellH es kd (dkey kk)) (misses + tellM es kd (dkey kk)) (gn + tellG es n kd (dkey kk)) fp' ∧ Turn fp w w' ∧ ∀ b, fp' b → fp b ∨ w.heap.size ≤ b := by
  have HG := Lib.hid hg
  have HH := Lib.hid (And.intro h1 (And.intro h2 h3))
  have HK := Lib.hid hkk
  obtain ⟨w0, hw0⟩ : ∃ w0, w0 = w.alloc (.cells #[.int .i64 kd, .int .i64 kk, .string val] 35) := ⟨_, rfl⟩
  have HT0 := Lib.hid (show Turn fp w w0 by rw [hw0]; exact (Turn.refl _ _).alloc _)
  have hnews := (MapKept.heap_alloc w (.cells #[.int .i64 kd, .int .i64 kk, .string val] 35)).1
  rw [← hw0] at hnews
  have hs0 : w0.heap.size = w.heap.size + 1 := by rw [hw0]; simp
  have HO0 := Lib.hid (H.keep (w' := w0) fun b hb => by rw [hw0]; exact ((Turn.refl (fun _ => False) w).alloc _).block b (H.lt hb) (fun h => h))
  have HS0 := Lib.hid hs0
  have HL := Lib.hid (show es.length ≤ 1000000 by have := hg.len; omega)
  have c0 : w0.cell? ⟨w.heap.size, 0, none⟩ = some (.int .i64 kd) := by simp [World.cell?, hnews]
  have c1 : w0.cell? ⟨w.heap.size, 1, none⟩ = some (.int .i64 kk) := by simp [World.cell?, hnews]
  have c2 : w0.cell? ⟨w.heap.size, 2, none⟩ = some (.string val) := by simp [World.cell?, hnews]
  clear hg h1 h2 h3 hkk hnews hs0 H
  go_enter Try.func31, Try.ntmps31
  go_upto_region 1 with (fail)
  rw [← hw0]
  clear hw0
  go_wp2_with fail
  refine (digits_calls kk HK.out _).mono ?_
  rintro r w1 ⟨rfl, rfl⟩
  have HKS := Lib.hid (show (dkey kk).size ≤ maxLen by have := dkey_size kk; unfold maxLen; omega)
  obtain ⟨k, hk⟩ : ∃ k, k = dkey kk := ⟨_, rfl⟩
  rw [← hk] at HKS ⊢
  have HKK := Lib.hid hk
  clear hk
  by_cases e1 : kd = 1
  · subst e1
    go_wp2_with fail
    refine (getO k HO0.out HKS.out HH.out.1 HH.out.2.1).mono ?_
    rintro r w2 ⟨rfl, fp2, ho, ht, hf⟩
    have HR := Lib.hid (show ∃ fp', CObj IS w2 c n (tellE es n 1 k val) (hits + tellH es 1 k) (misses + tellM es 1 k) (gn + tellG es n 1 k) fp' ∧ Turn fp w w2 ∧ ∀ b, fp' b → fp b ∨ w.heap.size ≤ b from ⟨fp2, by unfold tellE tellH tellM tellG; simpa using ho, HT0.out.trans ht, fun b hb => (hf b hb).imp id (fun h => by have := HS0.out; omega)⟩)
    clear ho ht hf
    go_wp2
    go_end0
    exact ⟨rfl, by rw [← HKK.out]; exact HR.out⟩
  have t1 : (kd == 1) = false := by rw [beq_eq_false_iff_ne]; exact e1
  by_cases e2 : kd = 2
  · subst e2
    clear t1 e1
    go_wp2_with fail
    refine (peekO k HO0.out HKS.out).mono ?_
    rintro r w2 ⟨rfl, hb⟩
    have HR := Lib.hid (show ∃ fp', CObj IS w2 c n (tellE es n 2 k val) (hits + tellH es 2 k) (misses + tellM es 2 k) (gn + tellG es n 2 k) fp' ∧ Turn fp w w2 ∧ ∀ b, fp' b → fp b ∨ w.heap.size ≤ b from ⟨fp, by unfold tellE tellH tellM tellG; simpa using HO0.out.keep (w' := w2) fun b hb' => hb.block b (HO0.out.lt hb'), HT0.out.trans (Turn.of_below hb), fun b hb => .inl hb⟩)
    clear hb
    go_wp2
    go_end0
    exact ⟨rfl, by rw [← HKK.out]; exact HR.out⟩
  have t2 : (kd == 2) = false := by rw [beq_eq_false_iff_ne]; exact e2
  by_cases e3 : kd = 3
  · subst e3
    clear t1 t2 e1 e2
    go_wp2_with fail
    refine (putO k val HO0.out HKS.out HG.out.ksm hn0 HG.out.len HL.out HH.out.2.2).mono ?_
    rintro r w2 ⟨rfl, fp2, ho, ht, hf⟩
    have HR := Lib.hid (show ∃ fp', CObj IS w2 c n (tellE es n 3 k val) (hits + tellH es 3 k) (misses + tellM es 3 k) (gn + tellG es n 3 k) fp' ∧ Turn fp w w2 ∧ ∀ b, fp' b → fp b ∨ w.heap.size ≤ b from ⟨fp2, by unfold tellE tellH tellM tellG; simpa using ho, HT0.out.trans ht, fun b hb => (hf b hb).imp id (fun h => by have := HS0.out; omega)⟩)
    clear ho ht hf
    go_wp2
    go_end0
    exact ⟨rfl, by rw [← HKK.out]; exact HR.out⟩
  have t3 : (kd == 3) = false := by rw [beq_eq_false_iff_ne]; exact e3
  by_cases e4 : kd = 4
  · subst e4
    clear t1 t2 t3 e1 e2 e3
    go_wp2_with fail
    refine (dropO k HO0.out HKS.out).mono ?_
    rintro r w2 ⟨rfl, fp2, ho, ht, hf⟩
    have HR := Lib.hid (show ∃ fp', CObj IS w2 c n (tellE es n 4 k val) (hits + tellH es 4 k) (misses + tellM es 4 k) (gn + tellG es n 4 k) fp' ∧ Turn fp w w2 ∧ ∀ b, fp' b → fp b ∨ w.heap.size ≤ b from ⟨fp2, by unfold tellE tellH tellM tellG; simpa using ho, HT0.out.trans ht, fun b hb => (hf b hb).imp id (fun h => by have := HS0.out; omega)⟩)
    clear ho ht hf
    go_wp2
    go_end0
    exact ⟨rfl, by rw [← HKK.out]; exact HR.out⟩
  have t4 : (kd == 4) = false := by rw [beq_eq_false_iff_ne]; exact e4
  by_cases e5 : kd = 5
  · subst e5
    clear t1 t2 t3 t4 e1 e2 e3 e4
    go_wp2_with fail
    refine (clearO HO0.out).mono ?_
    rintro r w2 ⟨rfl, fp2, ho, ht, hf⟩
    have HR := Lib.hid (show ∃ fp', CObj IS w2 c n (tellE es n 5 k val) (hits + tellH es 5 k) (misses + tellM es 5 k) (gn + tellG es n 5 k) fp' ∧ Turn fp w w2 ∧ ∀ b, fp' b → fp b ∨ w.heap.size ≤ b from ⟨fp2, by unfold tellE tellH tellM tellG; simpa using ho, HT0.out.trans ht, fun b hb => (hf b hb).imp id (fun h => by have := HS0.out; omega)⟩)
    clear ho ht hf
    go_wp2
    go_end0
    exact ⟨rfl, by rw [← HKK.out]; exact HR.out⟩
  have t5 : (kd == 5) = false := by rw [beq_eq_false_iff_ne]; exact e5
  by_cases e6 : kd = 6
  · subst e6
    clear t1 t2 t3 t4 t5 e1 e2 e3 e4 e5
    go_wp2_with fail
    refine (lenO HO0.out).mono ?_
    rintro r w2 ⟨rfl, hw2⟩
    have hb : Below w0.heap.size w0 w2 := hw2 ▸ Below.refl _ _
    clear hw2
    have HR := Lib.hid (show ∃ fp', CObj IS w2 c n (tellE es n 6 k val) (hits + tellH es 6 k) (misses + tellM es 6 k) (gn + tellG es n 6 k) fp' ∧ Turn fp w w2 ∧ ∀ b, fp' b → fp b ∨ w.heap.size ≤ b from ⟨fp, by unfold tellE tellH tellM tellG; simpa using HO0.out.keep (w' := w2) fun b hb' => hb.block b (HO0.out.lt hb'), HT0.out.trans (Turn.of_below hb), fun b hb => .inl hb⟩)
    clear hb
    go_wp2
    go_end0
    exact ⟨rfl, by rw [← HKK.out]; exact HR.out⟩
  have t6 : (kd == 6) = false := by rw [beq_eq_false_iff_ne]; exact e6
  by_cases e7 : kd = 7
  · subst e7
    clear t1 t2 t3 t4 t5 t6 e1 e2 e3 e4 e5 e6
    go_wp2_with fail
    refine (keysO HO0.out HL.out).mono ?_
    rintro r w2 ⟨vv, rfl, _, hb⟩
    have HR := Lib.hid (show ∃ fp', CObj IS w2 c n (tellE es n 7 k val) (hits + tellH es 7 k) (misses + tellM es 7 k) (gn + tellG es n 7 k) fp' ∧ Turn fp w w2 ∧ ∀ b, fp' b → fp b ∨ w.heap.size ≤ b from ⟨fp, by unfold tellE tellH tellM tellG; simpa using HO0.out.keep (w' := w2) fun b hb' => hb.block b (HO0.out.lt hb'), HT0.out.trans (Turn.of_below hb), fun b hb => .inl hb⟩)
    clear hb
    go_wp2
    go_end0
    exact ⟨rfl, by rw [← HKK.out]; exact HR.out⟩
  have t7 : (kd == 7) = false := by rw [beq_eq_false_iff_ne]; exact e7
  by_cases e8 : kd = 8
  · subst e8
    clear t1 t2 t3 t4 t5 t6 t7 e1 e2 e3 e4 e5 e6 e7
    go_wp2_with fail
    refine (countsO HO0.out).mono ?_
    rintro r w2 ⟨rfl, hb⟩
    have HR := Lib.hid (show ∃ fp', CObj IS w2 c n (tellE es n 8 k val) (hits + tellH es 8 k) (misses + tellM es 8 k) (gn + tellG es n 8 k) fp' ∧ Turn fp w w2 ∧ ∀ b, fp' b → fp b ∨ w.heap.size ≤ b from ⟨fp, by unfold tellE tellH tellM tellG; simpa using HO0.out.keep (w' := w2) fun b hb' => hb.block b (HO0.out.lt hb'), HT0.out.trans (Turn.of_below hb), fun b hb => .inl hb⟩)
    clear hb
    go_wp2
    go_end0
    exact ⟨rfl, by rw [← HKK.out]; exact HR.out⟩
  have t8 : (kd == 8) = false := by rw [beq_eq_false_iff_ne]; exact e8
  have HR := Lib.hid (show ∃ fp', CObj IS w0 c n (tellE es n kd k val) (hits + tellH es kd k) (misses + tellM es kd k) (gn + tellG es n kd k) fp' ∧ Turn fp w w0 ∧ ∀ b, fp' b → fp b ∨ w.heap.size ≤ b from ⟨fp, by unfold tellE tellH tellM tellG; simpa [e1, e3, e4, e5] using HO0.out, HT0.out, fun b hb => .inl hb⟩)
  clear e1 e2 e3 e4 e5 e6 e7 e8
  go_wp2
  go_end0
  exact ⟨rfl, by rw [← HKK.out]; exact HR.out⟩
end
set_option maxHeartbeats 4000000 in
set_option maxRecDepth 100000 in
theorem within_calls {w : World} {c1 c2 : Nat} {n m h1 m1 g1 h2 m2 g2 : Int} {a b : Es} {fp1 fp2 : Nat → Prop} (HA : CObj IS w c1 n a h1 m1 g1 fp1) (HB : CObj IS w c2 m b h2 m2 g2 fp2) (hg : Good a n) (hn1 : n ≤ 4096) (hsub : a.Sublist b) :
    Calls Try.prog 32 #[ptr c1, ptr c2] w fun r w' => r = .returned (.bool true) ∧ Below w.heap.size w w' := by
  have HA0 := Lib.hid HA
  have HB0 := Lib.hid HB
  have HF : Hid (∀ k ∈ a.map (·.1), k.size ≤ maxLen ∧ ∃ v, findV a k = some v ∧ findV b k = some v) := Lib.hid fun k hk => by
    obtain ⟨x, hx, hxk⟩ := List.mem_map.1 hk
    refine ⟨hxk ▸ hg.ksm x hx, ?_⟩
    have h1 := find_iff.2 hk
    cases h2 : findV a k with
    | none => rw [h2] at h1; cases h1
    | some v => exact ⟨v, rfl, sub_find hsub HB.nodup h2⟩
  have HL := Lib.hid (show a.length ≤ 1000000 by have := hg.len; omega)
  clear HA HB hg hsub
  go_enter Try.func32, Try.ntmps32
  go_wp2_with fail
  refine (keysO HA0.out HL.out).mono ?_
  rintro r w1 ⟨v, rfl, hrow, hb⟩
  obtain ⟨KS, hKS⟩ : ∃ KS, KS = a.map (·.1) := ⟨_, rfl⟩
  rw [← hKS] at hrow HF
  have hKL : KS.length ≤ 1000000 := by have := HL.out; rw [hKS, List.length_map]; exact this
  have HS := Lib.hid (SlIn.of_own hrow)
  have HB1 := Lib.hid hb
  clear hrow hb hKS
  obtain ⟨A, cap, rfl, hcap, hc⟩ := HS.out.strs
  have HC := Lib.hid hc
  clear hc HS
  go_wp2
  go_loopw [6] (fun iv wr => ∃ i : Nat, iv = .int .i64 i ∧ i ≤ KS.length ∧ Hid (Below w.heap.size w wr) ∧ Hid (Below w1.heap.size w1 wr)) (fun iv _ => KS.length - (intOf iv).toNat)
  case atStart => exact ⟨0, rfl, by omega, HB1, Lib.hid (Below.refl _ _)⟩
  case round =>
    obtain ⟨i, rfl, hi, HB2, HW⟩ := hrel
    by_cases hlt : i < KS.length
    · obtain ⟨bb, o, rfl, hbb, hC1⟩ := HC.out (by omega)
      have c0 : wr.cell? ⟨bb, o + i, none⟩ = some (.string KS[i]) := by rw [HW.out.cell hbb]; exact hC1 i hlt
      clear hC1
      obtain ⟨hk, v, f1, f2⟩ := HF.out _ (List.getElem_mem hlt)
      obtain ⟨x, hx⟩ : ∃ x, x = KS[i] := ⟨_, rfl⟩
      rw [← hx] at c0 hk f1 f2
      clear hx
      have HK := Lib.hid hk
      have F1 := Lib.hid f1
      have F2 := Lib.hid f2
      have HA2 := Lib.hid (HA0.out.keep (w' := wr) fun b hb' => HB2.out.block b (HA0.out.lt hb'))
      clear hk f1 f2
      go_wp2_with fail
      refine (peekO x HA2.out HK.out).mono ?_
      rintro r w2 ⟨rfl, hb2⟩
      rw [F1.out]
      have c2 : w2.cell? ⟨bb, o + i, none⟩ = some (.string x) := by rw [hb2.cell (by have := HW.out.size; show bb < _; omega)]; exact c0
      have HB3 := Lib.hid (HB2.out.trans (hb2.mono HB2.out.size))
      have HW3 := Lib.hid (HW.out.trans (hb2.mono HW.out.size))
      have HC3 := Lib.hid (HB0.out.keep (w' := w2) fun b hb' => HB3.out.block b (HB0.out.lt hb'))
      clear c0 hb2
      go_wp2_with fail
      refine (peekO x HC3.out HK.out).mono ?_
      rintro r w3 ⟨rfl, hb3⟩
      rw [F2.out]
      have HB4 := Lib.hid (HB3.out.trans (hb3.mono HB3.out.size))
      have HW4 := Lib.hid (HW3.out.trans (hb3.mono HW3.out.size))
      have hst := str_eq v
      clear hb3 c2
      go_wp2
      exact ⟨⟨i + 1, by go_num, by omega, HB4, HW4⟩, by simp [intOf]; omega⟩
    · obtain rfl : i = KS.length := by omega
      go_wp2
      go_ret
      exact ⟨rfl, HB2.out⟩
end Go.Proofs.Ytfkdmbiejledoaa
