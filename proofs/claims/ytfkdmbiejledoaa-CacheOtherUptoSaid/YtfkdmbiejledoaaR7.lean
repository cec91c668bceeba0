/-
  texts: the two caches answer alike.
-/
import Derived.Test.YtfkdmbiejledoaaR6
import Derived.Test.YtfkdmbiejledoaaC13
set_option linter.unusedVariables false
set_option linter.unusedSimpArgs false
namespace Go.Proofs.Ytfkdmbiejledoaa
open Go.RowKit


section
variable {w w1 w2 : World} {c r : Nat} {n h m g h' m' g' h1 m1 g1 : Int} {es es' es1 : Es} {fp1 fp2 f1 f2 : Nat → Prop}
theorem duo_c (HR : RObj w r n es' h' m' g' fp2) (hd : ∀ b, fp1 b → ¬ fp2 b) (ht : Turn fp1 w w1) (hf : ∀ b, f1 b → fp1 b ∨ w.heap.size ≤ b) : RObj w1 r n es' h' m' g' fp2 ∧ (∀ b, f1 b → ¬ fp2 b) :=
  ⟨HR.keep ht.size (fun b hb => ht.block b (HR.lt hb) (fun h => hd b h hb)), fun b h1 h2 => (hf b h1).elim (fun h => hd b h h2) (fun h => by have := HR.lt h2; omega)⟩
theorem duo_r (HC : CObj IS w c n es' h' m' g' fp1) (hd : ∀ b, fp1 b → ¬ fp2 b) (ht : Turn fp2 w w1) (hf : ∀ b, f2 b → fp2 b ∨ w.heap.size ≤ b) : CObj IS w1 c n es' h' m' g' fp1 ∧ (∀ b, fp1 b → ¬ f2 b) :=
  ⟨HC.keep (fun b hb => ht.block b (HC.lt hb) (fun h => hd b hb h)), fun b h1 h2 => (hf b h2).elim (fun h => hd b h1 h) (fun h => by have := HC.lt h1; omega)⟩
/-- two caches, the program's and the document's, that hold the same -/
def Duo (w : World) (c r : Nat) (n : Int) (es : Es) (h m g : Int) (fp : Nat → Prop) : Prop :=
  ∃ fp1 fp2, CObj IS w c n es h m g fp1 ∧ RObj w r n es h m g fp2 ∧ (∀ b, fp1 b → ¬ fp2 b) ∧ ∀ b, fp b ↔ fp1 b ∨ fp2 b
theorem duo_end {fp : Nat → Prop} {w0 : World} (hfp : ∀ b, fp b ↔ fp1 b ∨ fp2 b) (h0 : Turn fp w w0) (HC : CObj IS w2 c n es h m g f1) (HR : RObj w2 r n es h m g f2) (hd : ∀ b, f1 b → ¬ f2 b) (t1 : Turn fp1 w0 w1) (g1 : ∀ b, f1 b → fp1 b ∨ w0.heap.size ≤ b) (t2 : Turn fp2 w1 w2) (g2 : ∀ b, f2 b → fp2 b ∨ w1.heap.size ≤ b) :
    ∃ fp', Duo w2 c r n es h m g fp' ∧ Turn fp w w2 ∧ ∀ b, fp' b → fp b ∨ w.heap.size ≤ b := by
  refine ⟨fun b => f1 b ∨ f2 b, ⟨f1, f2, HC, HR, hd, fun _ => Iff.rfl⟩, ?_, ?_⟩
  · exact h0.trans' (t1.trans' t2 (F := fp1) (G := fp2) |> fun t => (Turn.trans' (F := fp) (t1.mono fun i hi => .inl ((hfp i).2 (.inl hi))) t2 fun i hi => .inl ((hfp i).2 (.inr hi)))) fun i hi => .inl hi
  · have s0 := h0.size
    have s1 := t1.size
    rintro b (hb | hb)
    · exact (g1 b hb).elim (fun h => .inl ((hfp b).2 (.inl h))) (fun h => .inr (by omega))
    · exact (g2 b hb).elim (fun h => .inl ((hfp b).2 (.inr h))) (fun h => .inr (by omega))
set_option maxHeartbeats 4000000 in
set_option maxRecDepth 100000 in
theorem texts_calls {gn hits misses : Int} {fp : Nat → Prop} (kd kk : Int) (val : ByteArray) (H : Duo w c r n es hits misses gn fp) (hg : Good es n) (hn0 : 0 ≤ n) (hn1 : n ≤ 4096) (hkd : InI64 kd) (hkk : InI64 kk)
    (h1 : -1000000000 ≤ hits ∧ hits ≤ 1000000000) (h2 : -1000000000 ≤ misses ∧ misses ≤ 1000000000) (h3 : -1000000000 ≤ gn ∧ gn ≤ 1000000000) :
    Calls Try.prog 28 #[ptr c, ptr r, .agg #[.int .i64 kd, .int .i64 kk, .string val]] w fun x w' => x = .returned (.bool true) ∧
      ∃ fp', Duo w' c r n (tellE es n kd (dkey kk) val) (hits + tellH es kd (dkey kk)) (misses + tellM es kd (dkey kk)) (gn + tellG es n kd (dkey kk)) fp' ∧ Turn fp w w' ∧ ∀ b, fp' b → fp b ∨ w.heap.size ≤ b := by
  have HG := Lib.hid hg
  have HH := Lib.hid (And.intro h1 (And.intro h2 h3))
  have HK := Lib.hid hkk
  obtain ⟨fp1, fp2, hc, hr, hd, hfp⟩ := H
  have HFP := Lib.hid hfp
  have HD0 := Lib.hid hd
  obtain ⟨w0, hw0⟩ : ∃ w0, w0 = w.alloc (.cells #[.int .i64 kd, .int .i64 kk, .string val] 35) := ⟨_, rfl⟩
  have HT0 := Lib.hid (show Turn fp w w0 by rw [hw0]; exact (Turn.refl _ _).alloc _)
  have hnews := (MapKept.heap_alloc w (.cells #[.int .i64 kd, .int .i64 kk, .string val] 35)).1
  rw [← hw0] at hnews
  have hb0 : Below w.heap.size w w0 := by rw [hw0]; exact (Below.refl _ _).alloc (Nat.le_refl _) _
  have HO0 := Lib.hid (hc.keep (w' := w0) fun b hb => hb0.block b (hc.lt hb))
  have HR0 := Lib.hid (hr.keep (w' := w0) hb0.size fun b hb => hb0.block b (hr.lt hb))
  have HL := Lib.hid (show es.length ≤ 1000000 by have := hg.len; omega)
  have hlt0 : w.heap.size < w0.heap.size := by rw [hw0]; simp
  have HLT0 := Lib.hid hlt0
  have hnf1 : ¬ fp1 w.heap.size := fun h => by have := hc.lt h; omega
  have HNF := Lib.hid hnf1
  have c0 : w0.cell? ⟨w.heap.size, 0, none⟩ = some (.int .i64 kd) := by simp [World.cell?, hnews]
  have c1 : w0.cell? ⟨w.heap.size, 1, none⟩ = some (.int .i64 kk) := by simp [World.cell?, hnews]
  have c2 : w0.cell? ⟨w.heap.size, 2, none⟩ = some (.string val) := by simp [World.cell?, hnews]
  clear hg h1 h2 h3 hkk hnews hc hr hd hfp hb0 hlt0 hnf1
  go_enter Try.func28, Try.ntmps28
  go_upto_region 1 with (fail)
  rw [← hw0]
  clear hw0
  go_wp2_with fail
  refine (digits_calls kk HK.out _).mono ?_
  rintro x w1 ⟨rfl, rfl⟩
  have HKS := Lib.hid (show (dkey kk).size ≤ maxLen by have := dkey_size kk; unfold maxLen; omega)
  obtain ⟨k, hk⟩ : ∃ k, k = dkey kk := ⟨_, rfl⟩
  rw [← hk] at HKS ⊢
  have HKK := Lib.hid hk
  clear hk
  by_cases e1 : kd = 1
  · subst e1
    obtain ⟨s, hs⟩ : ∃ s, s = (findV es k).getD ⟨#[]⟩ := ⟨_, rfl⟩
    obtain ⟨ok, hok⟩ : ∃ ok, ok = (findV es k).isSome := ⟨_, rfl⟩
    go_wp2_with fail
    refine (getO k HO0.out HKS.out HH.out.1 HH.out.2.1).mono ?_
    rintro x w2 ⟨rfl, f1, hc, ht, hf⟩
    obtain ⟨hr, hd⟩ := duo_c HR0.out HD0.out ht hf
    have HC2 := Lib.hid hc
    have HR2 := Lib.hid hr
    have HD2 := Lib.hid hd
    have HT2 := Lib.hid ht
    have HF2 := Lib.hid hf
    clear hc hr hd ht hf c0 c1 c2
    rw [← hs, ← hok]
    go_wp2_with fail
    refine (getR k HR2.out HL.out HH.out.1 HH.out.2.1).mono ?_
    rintro x w3 ⟨rfl, f2, hr, ht, hf⟩
    obtain ⟨hc, hd⟩ := duo_r HC2.out HD2.out ht hf
    have HR := Lib.hid (show ∃ fp', Duo w3 c r n (tellE es n 1 k val) (hits + tellH es 1 k) (misses + tellM es 1 k) (gn + tellG es n 1 k) fp' ∧ Turn fp w w3 ∧ ∀ b, fp' b → fp b ∨ w.heap.size ≤ b from by
      have hc2 := hc
      have hr2 := hr
      unfold tellE tellH tellM tellG
      simp only [Int.add_zero, if_true, Int.reduceEq, if_false]
      exact duo_end HFP.out HT0.out (by simpa using hc) (by simpa using hr) hd HT2.out HF2.out ht hf)
    clear hc hr hd ht hf
    rw [← hs, ← hok]
    clear hs hok
    have hst := str_eq s
    cases ok <;> (go_wp2; go_ret; exact ⟨rfl, by rw [← HKK.out]; exact HR.out⟩)
  have t1 : (kd == 1) = false := by rw [beq_eq_false_iff_ne]; exact e1
  by_cases e2 : kd = 2
  · subst e2
    clear t1 e1
    obtain ⟨s, hs⟩ : ∃ s, s = (findV es k).getD ⟨#[]⟩ := ⟨_, rfl⟩
    obtain ⟨ok, hok⟩ : ∃ ok, ok = (findV es k).isSome := ⟨_, rfl⟩
    go_wp2_with fail
    refine (peekO k HO0.out HKS.out).mono ?_
    rintro x w2 ⟨rfl, hb⟩
    have hc := HO0.out.keep (w' := w2) fun b hb' => hb.block b (HO0.out.lt hb')
    have ht : Turn fp1 w0 w2 := Turn.of_below hb
    have hf : ∀ b, fp1 b → fp1 b ∨ w0.heap.size ≤ b := fun b h => .inl h
    obtain ⟨f1, hf1⟩ : ∃ f1, f1 = fp1 := ⟨_, rfl⟩
    rw [← hf1] at hc
    have hf : ∀ b, f1 b → fp1 b ∨ w0.heap.size ≤ b := fun b h => .inl (hf1 ▸ h)
    clear hf1 hb
    obtain ⟨hr, hd⟩ := duo_c HR0.out HD0.out ht hf
    have HC2 := Lib.hid hc
    have HR2 := Lib.hid hr
    have HD2 := Lib.hid hd
    have HT2 := Lib.hid ht
    have HF2 := Lib.hid hf
    clear hc hr hd ht hf c0 c1 c2
    rw [← hs, ← hok]
    go_wp2_with fail
    refine (peekR k HR2.out HL.out).mono ?_
    rintro x w3 ⟨rfl, hw2⟩
    have hb : Below w2.heap.size w2 w3 := hw2 ▸ Below.refl _ _
    clear hw2
    have hr := HR2.out.keep (w' := w3) hb.size fun b hb' => hb.block b (HR2.out.lt hb')
    have ht : Turn fp2 w2 w3 := Turn.of_below hb
    obtain ⟨f2, hf2⟩ : ∃ f2, f2 = fp2 := ⟨_, rfl⟩
    rw [← hf2] at hr
    have hf : ∀ b, f2 b → fp2 b ∨ w2.heap.size ≤ b := fun b h => .inl (hf2 ▸ h)
    clear hf2 hb
    obtain ⟨hc, hd⟩ := duo_r HC2.out HD2.out ht hf
    have HR := Lib.hid (show ∃ fp', Duo w3 c r n (tellE es n 2 k val) (hits + tellH es 2 k) (misses + tellM es 2 k) (gn + tellG es n 2 k) fp' ∧ Turn fp w w3 ∧ ∀ b, fp' b → fp b ∨ w.heap.size ≤ b from by
      have hc2 := hc
      have hr2 := hr
      unfold tellE tellH tellM tellG
      simp only [Int.add_zero, if_true, Int.reduceEq, if_false]
      exact duo_end HFP.out HT0.out (by simpa using hc) (by simpa using hr) hd HT2.out HF2.out ht hf)
    clear hc hr hd ht hf
    rw [← hs, ← hok]
    clear hs hok
    have hst := str_eq s
    cases ok <;> (go_wp2; go_ret; exact ⟨rfl, by rw [← HKK.out]; exact HR.out⟩)
  have t2 : (kd == 2) = false := by rw [beq_eq_false_iff_ne]; exact e2
  by_cases e3 : kd = 3
  · subst e3
    clear t1 t2 e1 e2
    obtain ⟨R, hR⟩ : ∃ R, R = putOut es n k := ⟨_, rfl⟩
    obtain ⟨old, ok⟩ := R
    go_wp2_with fail
    refine (putO k val HO0.out HKS.out HG.out.ksm hn0 HG.out.len HL.out HH.out.2.2).mono ?_
    rintro x w2 ⟨rfl, f1, hc, ht, hf⟩
    obtain ⟨hr, hd⟩ := duo_c HR0.out HD0.out ht hf
    have HC2 := Lib.hid hc
    have HR2 := Lib.hid hr
    have HD2 := Lib.hid hd
    have HT2 := Lib.hid ht
    have HF2 := Lib.hid hf
    have d2 : w2.cell? ⟨w.heap.size, 2, none⟩ = some (.string val) := by rw [ht.cell HLT0.out HNF.out]; exact c2
    clear hc hr hd ht hf c0 c1 c2
    rw [← hR]
    go_wp2_with fail
    refine (putR k val HR2.out hn0 HG.out.len HL.out HH.out.2.2).mono ?_
    rintro x w3 ⟨rfl, f2, hr, ht, hf⟩
    obtain ⟨hc, hd⟩ := duo_r HC2.out HD2.out ht hf
    have HR := Lib.hid (show ∃ fp', Duo w3 c r n (tellE es n 3 k val) (hits + tellH es 3 k) (misses + tellM es 3 k) (gn + tellG es n 3 k) fp' ∧ Turn fp w w3 ∧ ∀ b, fp' b → fp b ∨ w.heap.size ≤ b from by
      have hc2 := hc
      have hr2 := hr
      unfold tellE tellH tellM tellG
      simp only [Int.add_zero, if_true, Int.reduceEq, if_false]
      exact duo_end HFP.out HT0.out (by simpa using hc) (by simpa using hr) hd HT2.out HF2.out ht hf)
    clear hc hr hd ht hf
    rw [← hR]
    clear hR
    have hst := str_eq old
    cases ok <;> (go_wp2; go_ret; exact ⟨rfl, by rw [← HKK.out]; exact HR.out⟩)
  have t3 : (kd == 3) = false := by rw [beq_eq_false_iff_ne]; exact e3
  by_cases e4 : kd = 4
  · subst e4
    clear t1 t2 t3 e1 e2 e3
    obtain ⟨ok, hok⟩ : ∃ ok, ok = (findV es k).isSome := ⟨_, rfl⟩
    go_wp2_with fail
    refine (dropO k HO0.out HKS.out).mono ?_
    rintro x w2 ⟨rfl, f1, hc, ht, hf⟩
    obtain ⟨hr, hd⟩ := duo_c HR0.out HD0.out ht hf
    have HC2 := Lib.hid hc
    have HR2 := Lib.hid hr
    have HD2 := Lib.hid hd
    have HT2 := Lib.hid ht
    have HF2 := Lib.hid hf
    clear hc hr hd ht hf c0 c1 c2
    rw [← hok]
    go_wp2_with fail
    refine (dropR k HR2.out HL.out).mono ?_
    rintro x w3 ⟨rfl, f2, hr, ht, hf⟩
    obtain ⟨hc, hd⟩ := duo_r HC2.out HD2.out ht hf
    have HR := Lib.hid (show ∃ fp', Duo w3 c r n (tellE es n 4 k val) (hits + tellH es 4 k) (misses + tellM es 4 k) (gn + tellG es n 4 k) fp' ∧ Turn fp w w3 ∧ ∀ b, fp' b → fp b ∨ w.heap.size ≤ b from by
      have hc2 := hc
      have hr2 := hr
      unfold tellE tellH tellM tellG
      simp only [Int.add_zero, if_true, Int.reduceEq, if_false]
      exact duo_end HFP.out HT0.out (by simpa using hc) (by simpa using hr) hd HT2.out HF2.out ht hf)
    clear hc hr hd ht hf
    rw [← hok]
    clear hok
    cases ok <;> (go_wp2; go_ret; exact ⟨rfl, by rw [← HKK.out]; exact HR.out⟩)
  have t4 : (kd == 4) = false := by rw [beq_eq_false_iff_ne]; exact e4
  by_cases e5 : kd = 5
  · subst e5
    clear t1 t2 t3 t4 e1 e2 e3 e4
    go_wp2_with fail
    refine (clearO HO0.out).mono ?_
    rintro x w2 ⟨rfl, f1, hc, ht, hf⟩
    obtain ⟨hr, hd⟩ := duo_c HR0.out HD0.out ht hf
    have HC2 := Lib.hid hc
    have HR2 := Lib.hid hr
    have HD2 := Lib.hid hd
    have HT2 := Lib.hid ht
    have HF2 := Lib.hid hf
    clear hc hr hd ht hf c0 c1 c2
    go_wp2_with fail
    refine (clearR HR2.out).mono ?_
    rintro x w3 ⟨rfl, f2, hr, ht, hf⟩
    obtain ⟨hc, hd⟩ := duo_r HC2.out HD2.out ht hf
    have HR := Lib.hid (show ∃ fp', Duo w3 c r n (tellE es n 5 k val) (hits + tellH es 5 k) (misses + tellM es 5 k) (gn + tellG es n 5 k) fp' ∧ Turn fp w w3 ∧ ∀ b, fp' b → fp b ∨ w.heap.size ≤ b from by
      have hc2 := hc
      have hr2 := hr
      unfold tellE tellH tellM tellG
      simp only [Int.add_zero, if_true, Int.reduceEq, if_false]
      exact duo_end HFP.out HT0.out (by simpa using hc) (by simpa using hr) hd HT2.out HF2.out ht hf)
    clear hc hr hd ht hf
    go_wp2
    go_ret
    exact ⟨rfl, by rw [← HKK.out]; exact HR.out⟩
  have t5 : (kd == 5) = false := by rw [beq_eq_false_iff_ne]; exact e5
  by_cases e6 : kd = 6
  · subst e6
    clear t1 t2 t3 t4 t5 e1 e2 e3 e4 e5
    go_wp2_with fail
    refine (lenO HO0.out).mono ?_
    rintro x w2 ⟨rfl, hw2⟩
    have hb : Below w0.heap.size w0 w2 := hw2 ▸ Below.refl _ _
    clear hw2
    have hc := HO0.out.keep (w' := w2) fun b hb' => hb.block b (HO0.out.lt hb')
    have ht : Turn fp1 w0 w2 := Turn.of_below hb
    have hf : ∀ b, fp1 b → fp1 b ∨ w0.heap.size ≤ b := fun b h => .inl h
    obtain ⟨f1, hf1⟩ : ∃ f1, f1 = fp1 := ⟨_, rfl⟩
    rw [← hf1] at hc
    have hf : ∀ b, f1 b → fp1 b ∨ w0.heap.size ≤ b := fun b h => .inl (hf1 ▸ h)
    clear hf1 hb
    obtain ⟨hr, hd⟩ := duo_c HR0.out HD0.out ht hf
    have HC2 := Lib.hid hc
    have HR2 := Lib.hid hr
    have HD2 := Lib.hid hd
    have HT2 := Lib.hid ht
    have HF2 := Lib.hid hf
    clear hc hr hd ht hf c0 c1 c2
    go_wp2_with fail
    refine (lenR HR2.out).mono ?_
    rintro x w3 ⟨rfl, hw2⟩
    have hb : Below w2.heap.size w2 w3 := hw2 ▸ Below.refl _ _
    clear hw2
    have hr := HR2.out.keep (w' := w3) hb.size fun b hb' => hb.block b (HR2.out.lt hb')
    have ht : Turn fp2 w2 w3 := Turn.of_below hb
    obtain ⟨f2, hf2⟩ : ∃ f2, f2 = fp2 := ⟨_, rfl⟩
    rw [← hf2] at hr
    have hf : ∀ b, f2 b → fp2 b ∨ w2.heap.size ≤ b := fun b h => .inl (hf2 ▸ h)
    clear hf2 hb
    obtain ⟨hc, hd⟩ := duo_r HC2.out HD2.out ht hf
    have HR := Lib.hid (show ∃ fp', Duo w3 c r n (tellE es n 6 k val) (hits + tellH es 6 k) (misses + tellM es 6 k) (gn + tellG es n 6 k) fp' ∧ Turn fp w w3 ∧ ∀ b, fp' b → fp b ∨ w.heap.size ≤ b from by
      have hc2 := hc
      have hr2 := hr
      unfold tellE tellH tellM tellG
      simp only [Int.add_zero, if_true, Int.reduceEq, if_false]
      exact duo_end HFP.out HT0.out (by simpa using hc) (by simpa using hr) hd HT2.out HF2.out ht hf)
    clear hc hr hd ht hf
    go_wp2
    go_ret
    exact ⟨rfl, by rw [← HKK.out]; exact HR.out⟩
  have t6 : (kd == 6) = false := by rw [beq_eq_false_iff_ne]; exact e6
  by_cases e7 : kd = 7
  · subst e7
    clear t1 t2 t3 t4 t5 t6 e1 e2 e3 e4 e5 e6
    go_wp2_with fail
    refine (keysO HO0.out HL.out).mono ?_
    rintro x w2 ⟨v1, rfl, hrow, hb⟩
    have HS1 := Lib.hid (SlIn.of_own hrow)
    clear hrow
    have hc := HO0.out.keep (w' := w2) fun b hb' => hb.block b (HO0.out.lt hb')
    have ht : Turn fp1 w0 w2 := Turn.of_below hb
    have hf : ∀ b, fp1 b → fp1 b ∨ w0.heap.size ≤ b := fun b h => .inl h
    obtain ⟨f1, hf1⟩ : ∃ f1, f1 = fp1 := ⟨_, rfl⟩
    rw [← hf1] at hc
    have hf : ∀ b, f1 b → fp1 b ∨ w0.heap.size ≤ b := fun b h => .inl (hf1 ▸ h)
    clear hf1 hb
    obtain ⟨hr, hd⟩ := duo_c HR0.out HD0.out ht hf
    have HC2 := Lib.hid hc
    have HR2 := Lib.hid hr
    have HD2 := Lib.hid hd
    have HT2 := Lib.hid ht
    have HF2 := Lib.hid hf
    clear hc hr hd ht hf c0 c1 c2
    go_wp2_with fail
    refine (keysR HR2.out HL.out).mono ?_
    rintro x w3' ⟨v2, rfl, hrow, hb⟩
    have HS2 := Lib.hid hrow
    have HS1' := Lib.hid (HS1.out.below hb)
    have HBB := Lib.hid hb
    clear hrow hb
    go_wp2_with fail
    refine (same_calls (es.map (·.1)) (es.map (·.1)) _ _ w3' _ _ HS1'.out HS2.out (by have := HL.out; rw [List.length_map]; omega) (by have := HL.out; rw [List.length_map]; omega)).mono ?_
    rintro x w3 ⟨rfl, hb⟩
    rw [show sameB (es.map (·.1)) (es.map (·.1)) = true from decide_eq_true rfl]
    have hb := HBB.out.trans (hb.mono HBB.out.size)
    have hr := HR2.out.keep (w' := w3) hb.size fun b hb' => hb.block b (HR2.out.lt hb')
    have ht : Turn fp2 w2 w3 := Turn.of_below hb
    obtain ⟨f2, hf2⟩ : ∃ f2, f2 = fp2 := ⟨_, rfl⟩
    rw [← hf2] at hr
    have hf : ∀ b, f2 b → fp2 b ∨ w2.heap.size ≤ b := fun b h => .inl (hf2 ▸ h)
    clear hf2 hb
    obtain ⟨hc, hd⟩ := duo_r HC2.out HD2.out ht hf
    have HR := Lib.hid (show ∃ fp', Duo w3 c r n (tellE es n 7 k val) (hits + tellH es 7 k) (misses + tellM es 7 k) (gn + tellG es n 7 k) fp' ∧ Turn fp w w3 ∧ ∀ b, fp' b → fp b ∨ w.heap.size ≤ b from by
      have hc2 := hc
      have hr2 := hr
      unfold tellE tellH tellM tellG
      simp only [Int.add_zero, if_true, Int.reduceEq, if_false]
      exact duo_end HFP.out HT0.out (by simpa using hc) (by simpa using hr) hd HT2.out HF2.out ht hf)
    clear hc hr hd ht hf
    go_wp2
    go_ret
    exact ⟨rfl, by rw [← HKK.out]; exact HR.out⟩
  have t7 : (kd == 7) = false := by rw [beq_eq_false_iff_ne]; exact e7
  by_cases e8 : kd = 8
  · subst e8
    clear t1 t2 t3 t4 t5 t6 t7 e1 e2 e3 e4 e5 e6 e7
    go_wp2_with fail
    refine (countsO HO0.out).mono ?_
    rintro x w2 ⟨rfl, hb⟩
    have hc := HO0.out.keep (w' := w2) fun b hb' => hb.block b (HO0.out.lt hb')
    have ht : Turn fp1 w0 w2 := Turn.of_below hb
    have hf : ∀ b, fp1 b → fp1 b ∨ w0.heap.size ≤ b := fun b h => .inl h
    obtain ⟨f1, hf1⟩ : ∃ f1, f1 = fp1 := ⟨_, rfl⟩
    rw [← hf1] at hc
    have hf : ∀ b, f1 b → fp1 b ∨ w0.heap.size ≤ b := fun b h => .inl (hf1 ▸ h)
    clear hf1 hb
    obtain ⟨hr, hd⟩ := duo_c HR0.out HD0.out ht hf
    have HC2 := Lib.hid hc
    have HR2 := Lib.hid hr
    have HD2 := Lib.hid hd
    have HT2 := Lib.hid ht
    have HF2 := Lib.hid hf
    clear hc hr hd ht hf c0 c1 c2
    go_wp2_with fail
    refine (countsR HR2.out).mono ?_
    rintro x w3 ⟨rfl, hb⟩
    have hr := HR2.out.keep (w' := w3) hb.size fun b hb' => hb.block b (HR2.out.lt hb')
    have ht : Turn fp2 w2 w3 := Turn.of_below hb
    obtain ⟨f2, hf2⟩ : ∃ f2, f2 = fp2 := ⟨_, rfl⟩
    rw [← hf2] at hr
    have hf : ∀ b, f2 b → fp2 b ∨ w2.heap.size ≤ b := fun b h => .inl (hf2 ▸ h)
    clear hf2 hb
    obtain ⟨hc, hd⟩ := duo_r HC2.out HD2.out ht hf
    have HR := Lib.hid (show ∃ fp', Duo w3 c r n (tellE es n 8 k val) (hits + tellH es 8 k) (misses + tellM es 8 k) (gn + tellG es n 8 k) fp' ∧ Turn fp w w3 ∧ ∀ b, fp' b → fp b ∨ w.heap.size ≤ b from by
      have hc2 := hc
      have hr2 := hr
      unfold tellE tellH tellM tellG
      simp only [Int.add_zero, if_true, Int.reduceEq, if_false]
      exact duo_end HFP.out HT0.out (by simpa using hc) (by simpa using hr) hd HT2.out HF2.out ht hf)
    clear hc hr hd ht hf
    go_wp2
    go_ret
    exact ⟨rfl, by rw [← HKK.out]; exact HR.out⟩
  have t8 : (kd == 8) = false := by rw [beq_eq_false_iff_ne]; exact e8
  have HR := Lib.hid (show ∃ fp', Duo w0 c r n (tellE es n kd k val) (hits + tellH es kd k) (misses + tellM es kd k) (gn + tellG es n kd k) fp' ∧ Turn fp w w0 ∧ ∀ b, fp' b → fp b ∨ w.heap.size ≤ b from ⟨fp, by unfold tellE tellH tellM tellG; simpa [e1, e3, e4, e5] using ⟨fp1, fp2, HO0.out, HR0.out, HD0.out, HFP.out⟩, HT0.out, fun b hb => .inl hb⟩)
  clear e1 e2 e3 e4 e5 e6 e7 e8
  go_wp2
  go_ret
  exact ⟨rfl, by rw [← HKK.out]; exact HR.out⟩
end
end Go.Proofs.Ytfkdmbiejledoaa
