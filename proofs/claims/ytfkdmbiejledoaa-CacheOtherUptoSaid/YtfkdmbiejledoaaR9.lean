/-
  numbers: a cache of numbers answers as the document's.
-/
import Derived.Test.YtfkdmbiejledoaaR7
import Derived.Test.YtfkdmbiejledoaaC17
set_option linter.unusedVariables false
set_option linter.unusedSimpArgs false
namespace Go.Proofs.Ytfkdmbiejledoaa
open Go.RowKit


section
variable {w w1 w2 : World} {c r : Nat} {n h m g h' m' g' h1 m1 g1 : Int} {es es' es1 : Es} {ep ep' : Ep} {fp1 fp2 f1 f2 : Nat → Prop}
theorem duoP_c (HR : RObj w r n es' h' m' g' fp2) (hd : ∀ b, fp1 b → ¬ fp2 b) (ht : Turn fp1 w w1) (hf : ∀ b, f1 b → fp1 b ∨ w.heap.size ≤ b) : RObj w1 r n es' h' m' g' fp2 ∧ (∀ b, f1 b → ¬ fp2 b) := duo_c HR hd ht hf
theorem duoP_r (HC : CObj IP w c n ep' h' m' g' fp1) (hd : ∀ b, fp1 b → ¬ fp2 b) (ht : Turn fp2 w w1) (hf : ∀ b, f2 b → fp2 b ∨ w.heap.size ≤ b) : CObj IP w1 c n ep' h' m' g' fp1 ∧ (∀ b, fp1 b → ¬ f2 b) :=
  ⟨HC.keep (fun b hb => ht.block b (HC.lt hb) (fun h => hd b hb h)), fun b h1 h2 => (hf b h2).elim (fun h => hd b h1 h) (fun h => by have := HC.lt h1; omega)⟩
/-- a cache of numbers and pairs, and the document's, that hold the same -/
def DuoP (w : World) (c r : Nat) (n : Int) (ep : Ep) (h m g : Int) (fp : Nat → Prop) : Prop :=
  ∃ fp1 fp2, CObj IP w c n ep h m g fp1 ∧ RObj w r n (ep.map toE) h m g fp2 ∧ (∀ b, fp1 b → ¬ fp2 b) ∧ ∀ b, fp b ↔ fp1 b ∨ fp2 b
theorem duoP_end {fp : Nat → Prop} {w0 : World} (hfp : ∀ b, fp b ↔ fp1 b ∨ fp2 b) (h0 : Turn fp w w0) (HC : CObj IP w2 c n ep h m g f1) (HR : RObj w2 r n (ep.map toE) h m g f2) (hd : ∀ b, f1 b → ¬ f2 b) (t1 : Turn fp1 w0 w1) (g1 : ∀ b, f1 b → fp1 b ∨ w0.heap.size ≤ b) (t2 : Turn fp2 w1 w2) (g2 : ∀ b, f2 b → fp2 b ∨ w1.heap.size ≤ b) :
    ∃ fp', DuoP w2 c r n ep h m g fp' ∧ Turn fp w w2 ∧ ∀ b, fp' b → fp b ∨ w.heap.size ≤ b := by
  refine ⟨fun b => f1 b ∨ f2 b, ⟨f1, f2, HC, HR, hd, fun _ => Iff.rfl⟩, ?_, ?_⟩
  · exact h0.trans' (t1.trans' t2 (F := fp1) (G := fp2) |> fun t => (Turn.trans' (F := fp) (t1.mono fun i hi => .inl ((hfp i).2 (.inl hi))) t2 fun i hi => .inl ((hfp i).2 (.inr hi)))) fun i hi => .inl hi
  · have s0 := h0.size
    have s1 := t1.size
    rintro b (hb | hb)
    · exact (g1 b hb).elim (fun h => .inl ((hfp b).2 (.inl h))) (fun h => .inr (by omega))
    · exact (g2 b hb).elim (fun h => .inl ((hfp b).2 (.inr h))) (fun h => .inr (by omega))
theorem find_facts {k : Int} (hg : GoodP ep n) (hk : InI64 k) : ∃ s ok, (findV ep k).getD (⟨#[]⟩, 0) = (s, (s.size : Int)) ∧ (findV ep k).isSome = ok ∧ (findV (ep.map toE) (dkey k)).getD ⟨#[]⟩ = s ∧ (findV (ep.map toE) (dkey k)).isSome = ok ∧ (ok = false → s = ⟨#[]⟩) := by
  rw [findP hg.ks hk]
  cases hv : findV ep k with
  | none => exact ⟨⟨#[]⟩, false, rfl, rfl, rfl, rfl, fun _ => rfl⟩
  | some v =>
    obtain ⟨s, z⟩ := v
    obtain ⟨xs, ys, e, _⟩ := findV_some hv
    have := hg.vs (k, (s, z)) (by rw [e]; simp)
    simp only at this
    subst this
    exact ⟨s, true, rfl, rfl, rfl, rfl, fun h => by cases h⟩
set_option maxHeartbeats 4000000 in
set_option maxRecDepth 100000 in
theorem num_1 {gn hits misses : Int} {fp : Nat → Prop} (kk : Int) (val : ByteArray) (H : DuoP w c r n ep hits misses gn fp) (hg : GoodP ep n) (hn0 : 0 ≤ n) (hn1 : n ≤ 4096) (hkk : InI64 kk)
    (h1 : -1000000000 ≤ hits ∧ hits ≤ 1000000000) (h2 : -1000000000 ≤ misses ∧ misses ≤ 1000000000) (h3 : -1000000000 ≤ gn ∧ gn ≤ 1000000000) :
    Calls Try.prog 30 #[ptr c, ptr r, .agg #[.int .i64 1, .int .i64 kk, .string val]] w fun x w' => x = .returned (.bool true) ∧
      ∃ fp', DuoP w' c r n (tellPE ep n 1 kk val) (hits + tellH (ep.map toE) 1 (dkey kk)) (misses + tellM (ep.map toE) 1 (dkey kk)) (gn + tellG (ep.map toE) n 1 (dkey kk)) fp' ∧ Turn fp w w' ∧ ∀ b, fp' b → fp b ∨ w.heap.size ≤ b := by
  have HG := Lib.hid hg
  have HGG := Lib.hid hg.good
  have HH := Lib.hid (And.intro h1 (And.intro h2 h3))
  have HK := Lib.hid hkk
  obtain ⟨fp1, fp2, hc, hr, hd, hfp⟩ := H
  have HFP := Lib.hid hfp
  have HD0 := Lib.hid hd
  obtain ⟨w0, hw0⟩ : ∃ w0, w0 = w.alloc (.cells #[.int .i64 1, .int .i64 kk, .string val] 35) := ⟨_, rfl⟩
  have HT0 := Lib.hid (show Turn fp w w0 by rw [hw0]; exact (Turn.refl _ _).alloc _)
  have hnews := (MapKept.heap_alloc w (.cells #[.int .i64 1, .int .i64 kk, .string val] 35)).1
  rw [← hw0] at hnews
  have hb0 : Below w.heap.size w w0 := by rw [hw0]; exact (Below.refl _ _).alloc (Nat.le_refl _) _
  have HO0 := Lib.hid (hc.keep (w' := w0) fun b hb => hb0.block b (hc.lt hb))
  have HR0 := Lib.hid (hr.keep (w' := w0) hb0.size fun b hb => hb0.block b (hr.lt hb))
  have HL := Lib.hid (show (ep.map toE).length ≤ 1000000 by have := hg.good.len; omega)
  have HLP := Lib.hid (show ep.length ≤ 1000000 by have := hg.len; omega)
  have hlt0 : w.heap.size < w0.heap.size := by rw [hw0]; simp
  have HLT0 := Lib.hid hlt0
  have hnf1 : ¬ fp1 w.heap.size := fun h => by have := hc.lt h; omega
  have HNF := Lib.hid hnf1
  have c0 : w0.cell? ⟨w.heap.size, 0, none⟩ = some (.int .i64 1) := by simp [World.cell?, hnews]
  have c1 : w0.cell? ⟨w.heap.size, 1, none⟩ = some (.int .i64 kk) := by simp [World.cell?, hnews]
  have c2 : w0.cell? ⟨w.heap.size, 2, none⟩ = some (.string val) := by simp [World.cell?, hnews]
  clear hg h1 h2 h3 hkk hnews hc hr hd hfp hb0 hlt0 hnf1
  go_enter Try.func30, Try.ntmps30
  go_upto_region 1 with (fail)
  rw [← hw0]
  clear hw0
  go_wp2_with fail
  refine (digits_calls kk HK.out _).mono ?_
  rintro x w1 ⟨rfl, rfl⟩
  have HKS := Lib.hid (show (dkey kk).size ≤ maxLen by have := dkey_size kk; unfold maxLen; omega)
  obtain ⟨k, hk⟩ : ∃ k, k = dkey kk := ⟨_, rfl⟩
  rw [← hk] at HKS ⊢
  have HKK := Lib.hid hk
  clear hk
  obtain ⟨s, ok, q1, q2, q3, q4, q5⟩ := find_facts HG.out HK.out
  rw [← HKK.out] at q3 q4
  have Q1 := Lib.hid q1
  have Q2 := Lib.hid q2
  have Q3 := Lib.hid q3
  have Q4 := Lib.hid q4
  have Q5 := Lib.hid q5
  clear q1 q2 q3 q4 q5
  go_wp2_with fail
  refine (getOP kk HO0.out HK.out HH.out.1 HH.out.2.1).mono ?_
  rintro x w2 ⟨rfl, f1, hc, ht, hf⟩
  obtain ⟨hr, hd⟩ := duoP_c HR0.out HD0.out ht hf
  rw [Q1.out, Q2.out]
  unfold pv
  simp only
  obtain ⟨u2, hu2⟩ : ∃ u2, u2 = w2.alloc (.cells #[.string s, .int .i64 s.size] 58) := ⟨_, rfl⟩
  have p1 := (MapKept.heap_alloc w2 (.cells #[.string s, .int .i64 s.size] 58)).1
  have p2 : Below w2.heap.size w2 u2 := by rw [hu2]; exact (Below.refl _ _).alloc (Nat.le_refl _) _
  have p3 : w2.heap.size < u2.heap.size := by rw [hu2]; simp
  have e0 : u2.cell? ⟨w2.heap.size, 0, none⟩ = some (.string s) := by rw [hu2]; exact cell_of_block p1 (by show 0 < 2; decide)
  have e1 : u2.cell? ⟨w2.heap.size, 1, none⟩ = some (.int .i64 s.size) := by rw [hu2]; exact cell_of_block p1 (by show 1 < 2; decide)
  have hc' := hc.keep (w' := u2) fun b hb' => p2.block b (hc.lt hb')
  have hr' := hr.keep (w' := u2) p2.size fun b hb' => p2.block b (hr.lt hb')
  have ht' : Turn fp1 w0 u2 := ht.trans (Turn.of_below p2)
  have HNB := Lib.hid (show ¬ fp2 w2.heap.size from fun h => by have := hr.lt h; omega)
  have HLB := Lib.hid p3
  have HC2 := Lib.hid hc'
  have HR2 := Lib.hid hr'
  have HD2 := Lib.hid hd
  have HT2 := Lib.hid ht'
  have HF2 := Lib.hid hf
  clear hc hr hd ht hf c0 c1 c2 hc' hr' ht' p1 p2 p3
  go_upto_region 5 with (fail)
  rw [← hu2]
  clear hu2
  go_wp2_with fail
  refine (getR k HR2.out HL.out HH.out.1 HH.out.2.1).mono ?_
  rintro x w3 ⟨rfl, f2, hr, ht, hf⟩
  obtain ⟨hc, hd⟩ := duoP_r HC2.out HD2.out ht hf
  have e0' : w3.cell? ⟨w2.heap.size, 0, none⟩ = some (.string s) := by rw [ht.cell HLB.out HNB.out]; exact e0
  have e1' : w3.cell? ⟨w2.heap.size, 1, none⟩ = some (.int .i64 s.size) := by rw [ht.cell HLB.out HNB.out]; exact e1
  clear e0 e1
  have HR := Lib.hid (show ∃ fp', DuoP w3 c r n (tellPE ep n 1 kk val) (hits + tellH (ep.map toE) 1 k) (misses + tellM (ep.map toE) 1 k) (gn + tellG (ep.map toE) n 1 k) fp' ∧ Turn fp w w3 ∧ ∀ b, fp' b → fp b ∨ w.heap.size ≤ b from by
    have hc2 := hc
    have hr2 := hr
    have hfs : (findV ep kk).isSome = (findV (ep.map toE) k).isSome := by rw [Q2.out, Q4.out]
    rw [hfs] at hc2
    unfold tellPE tellH tellM tellG
    simp only [Int.add_zero, if_true, Int.reduceEq, if_false]
    have heq : getE (ep.map toE) k = (getPE ep kk).map toE := (by rw [HKK.out]; exact getP_toE HG.out.ks HK.out)
    rw [heq] at hr2
    exact duoP_end HFP.out HT0.out (by simpa using hc2) (by simpa using hr2) hd HT2.out HF2.out ht hf)
  clear hc hr hd ht hf
  rw [Q3.out, Q4.out]
  have hst := str_eq s
  cases ok
  · obtain rfl : s = ⟨#[]⟩ := Q5.out rfl
    go_wp2
    go_ret
    exact ⟨rfl, by rw [← HKK.out]; exact HR.out⟩
  · go_wp2
    go_ret
    exact ⟨rfl, by rw [← HKK.out]; exact HR.out⟩
set_option maxHeartbeats 4000000 in
set_option maxRecDepth 100000 in
theorem num_2 {gn hits misses : Int} {fp : Nat → Prop} (kk : Int) (val : ByteArray) (H : DuoP w c r n ep hits misses gn fp) (hg : GoodP ep n) (hn0 : 0 ≤ n) (hn1 : n ≤ 4096) (hkk : InI64 kk)
    (h1 : -1000000000 ≤ hits ∧ hits ≤ 1000000000) (h2 : -1000000000 ≤ misses ∧ misses ≤ 1000000000) (h3 : -1000000000 ≤ gn ∧ gn ≤ 1000000000) :
    Calls Try.prog 30 #[ptr c, ptr r, .agg #[.int .i64 2, .int .i64 kk, .string val]] w fun x w' => x = .returned (.bool true) ∧
      ∃ fp', DuoP w' c r n (tellPE ep n 2 kk val) (hits + tellH (ep.map toE) 2 (dkey kk)) (misses + tellM (ep.map toE) 2 (dkey kk)) (gn + tellG (ep.map toE) n 2 (dkey kk)) fp' ∧ Turn fp w w' ∧ ∀ b, fp' b → fp b ∨ w.heap.size ≤ b := by
  have HG := Lib.hid hg
  have HGG := Lib.hid hg.good
  have HH := Lib.hid (And.intro h1 (And.intro h2 h3))
  have HK := Lib.hid hkk
  obtain ⟨fp1, fp2, hc, hr, hd, hfp⟩ := H
  have HFP := Lib.hid hfp
  have HD0 := Lib.hid hd
  obtain ⟨w0, hw0⟩ : ∃ w0, w0 = w.alloc (.cells #[.int .i64 2, .int .i64 kk, .string val] 35) := ⟨_, rfl⟩
  have HT0 := Lib.hid (show Turn fp w w0 by rw [hw0]; exact (Turn.refl _ _).alloc _)
  have hnews := (MapKept.heap_alloc w (.cells #[.int .i64 2, .int .i64 kk, .string val] 35)).1
  rw [← hw0] at hnews
  have hb0 : Below w.heap.size w w0 := by rw [hw0]; exact (Below.refl _ _).alloc (Nat.le_refl _) _
  have HO0 := Lib.hid (hc.keep (w' := w0) fun b hb => hb0.block b (hc.lt hb))
  have HR0 := Lib.hid (hr.keep (w' := w0) hb0.size fun b hb => hb0.block b (hr.lt hb))
  have HL := Lib.hid (show (ep.map toE).length ≤ 1000000 by have := hg.good.len; omega)
  have HLP := Lib.hid (show ep.length ≤ 1000000 by have := hg.len; omega)
  have hlt0 : w.heap.size < w0.heap.size := by rw [hw0]; simp
  have HLT0 := Lib.hid hlt0
  have hnf1 : ¬ fp1 w.heap.size := fun h => by have := hc.lt h; omega
  have HNF := Lib.hid hnf1
  have c0 : w0.cell? ⟨w.heap.size, 0, none⟩ = some (.int .i64 2) := by simp [World.cell?, hnews]
  have c1 : w0.cell? ⟨w.heap.size, 1, none⟩ = some (.int .i64 kk) := by simp [World.cell?, hnews]
  have c2 : w0.cell? ⟨w.heap.size, 2, none⟩ = some (.string val) := by simp [World.cell?, hnews]
  clear hg h1 h2 h3 hkk hnews hc hr hd hfp hb0 hlt0 hnf1
  go_enter Try.func30, Try.ntmps30
  go_upto_region 1 with (fail)
  rw [← hw0]
  clear hw0
  go_wp2_with fail
  refine (digits_calls kk HK.out _).mono ?_
  rintro x w1 ⟨rfl, rfl⟩
  have HKS := Lib.hid (show (dkey kk).size ≤ maxLen by have := dkey_size kk; unfold maxLen; omega)
  obtain ⟨k, hk⟩ : ∃ k, k = dkey kk := ⟨_, rfl⟩
  rw [← hk] at HKS ⊢
  have HKK := Lib.hid hk
  clear hk
  obtain ⟨s, ok, q1, q2, q3, q4, q5⟩ := find_facts HG.out HK.out
  rw [← HKK.out] at q3 q4
  have Q1 := Lib.hid q1
  have Q2 := Lib.hid q2
  have Q3 := Lib.hid q3
  have Q4 := Lib.hid q4
  have Q5 := Lib.hid q5
  clear q1 q2 q3 q4 q5
  go_wp2_with fail
  refine (peekOP kk HO0.out HK.out).mono ?_
  rintro x w2 ⟨rfl, hb⟩
  have hc := HO0.out.keep (w' := w2) fun b hb' => hb.block b (HO0.out.lt hb')
  have ht : Turn fp1 w0 w2 := Turn.of_below hb
  obtain ⟨f1, hf1⟩ : ∃ f1, f1 = fp1 := ⟨_, rfl⟩
  rw [← hf1] at hc
  have hf : ∀ b, f1 b → fp1 b ∨ w0.heap.size ≤ b := fun b h => .inl (hf1 ▸ h)
  clear hf1 hb
  obtain ⟨hr, hd⟩ := duoP_c HR0.out HD0.out ht hf
  rw [Q1.out, Q2.out]
  unfold pv
  simp only
  obtain ⟨u2, hu2⟩ : ∃ u2, u2 = w2.alloc (.cells #[.string s, .int .i64 s.size] 58) := ⟨_, rfl⟩
  have p1 := (MapKept.heap_alloc w2 (.cells #[.string s, .int .i64 s.size] 58)).1
  have p2 : Below w2.heap.size w2 u2 := by rw [hu2]; exact (Below.refl _ _).alloc (Nat.le_refl _) _
  have p3 : w2.heap.size < u2.heap.size := by rw [hu2]; simp
  have e0 : u2.cell? ⟨w2.heap.size, 0, none⟩ = some (.string s) := by rw [hu2]; exact cell_of_block p1 (by show 0 < 2; decide)
  have e1 : u2.cell? ⟨w2.heap.size, 1, none⟩ = some (.int .i64 s.size) := by rw [hu2]; exact cell_of_block p1 (by show 1 < 2; decide)
  have hc' := hc.keep (w' := u2) fun b hb' => p2.block b (hc.lt hb')
  have hr' := hr.keep (w' := u2) p2.size fun b hb' => p2.block b (hr.lt hb')
  have ht' : Turn fp1 w0 u2 := ht.trans (Turn.of_below p2)
  have HNB := Lib.hid (show ¬ fp2 w2.heap.size from fun h => by have := hr.lt h; omega)
  have HLB := Lib.hid p3
  have HC2 := Lib.hid hc'
  have HR2 := Lib.hid hr'
  have HD2 := Lib.hid hd
  have HT2 := Lib.hid ht'
  have HF2 := Lib.hid hf
  clear hc hr hd ht hf c0 c1 c2 hc' hr' ht' p1 p2 p3
  go_upto_region 9 with (fail)
  rw [← hu2]
  clear hu2
  go_wp2_with fail
  refine (peekR k HR2.out HL.out).mono ?_
  rintro x w3 ⟨rfl, hw2⟩
  have hb : Below u2.heap.size u2 w3 := hw2 ▸ Below.refl _ _
  clear hw2
  have hr := HR2.out.keep (w' := w3) hb.size fun b hb' => hb.block b (HR2.out.lt hb')
  have ht : Turn fp2 u2 w3 := Turn.of_below hb
  obtain ⟨f2, hf2⟩ : ∃ f2, f2 = fp2 := ⟨_, rfl⟩
  rw [← hf2] at hr
  have hf : ∀ b, f2 b → fp2 b ∨ u2.heap.size ≤ b := fun b h => .inl (hf2 ▸ h)
  clear hf2 hb
  obtain ⟨hc, hd⟩ := duoP_r HC2.out HD2.out ht hf
  have e0' : w3.cell? ⟨w2.heap.size, 0, none⟩ = some (.string s) := by rw [ht.cell HLB.out HNB.out]; exact e0
  have e1' : w3.cell? ⟨w2.heap.size, 1, none⟩ = some (.int .i64 s.size) := by rw [ht.cell HLB.out HNB.out]; exact e1
  clear e0 e1
  have HR := Lib.hid (show ∃ fp', DuoP w3 c r n (tellPE ep n 2 kk val) (hits + tellH (ep.map toE) 2 k) (misses + tellM (ep.map toE) 2 k) (gn + tellG (ep.map toE) n 2 k) fp' ∧ Turn fp w w3 ∧ ∀ b, fp' b → fp b ∨ w.heap.size ≤ b from by
    have hc2 := hc
    have hr2 := hr
    unfold tellPE tellH tellM tellG
    simp only [Int.add_zero, if_true, Int.reduceEq, if_false]
    exact duoP_end HFP.out HT0.out (by simpa using hc2) (by simpa using hr2) hd HT2.out HF2.out ht hf)
  clear hc hr hd ht hf
  rw [Q3.out, Q4.out]
  have hst := str_eq s
  cases ok
  · obtain rfl : s = ⟨#[]⟩ := Q5.out rfl
    go_wp2
    go_ret
    exact ⟨rfl, by rw [← HKK.out]; exact HR.out⟩
  · go_wp2
    go_ret
    exact ⟨rfl, by rw [← HKK.out]; exact HR.out⟩
set_option maxHeartbeats 4000000 in
set_option maxRecDepth 100000 in
theorem num_3 {gn hits misses : Int} {fp : Nat → Prop} (kk : Int) (val : ByteArray) (H : DuoP w c r n ep hits misses gn fp) (hg : GoodP ep n) (hn0 : 0 ≤ n) (hn1 : n ≤ 4096) (hkk : InI64 kk)
    (h1 : -1000000000 ≤ hits ∧ hits ≤ 1000000000) (h2 : -1000000000 ≤ misses ∧ misses ≤ 1000000000) (h3 : -1000000000 ≤ gn ∧ gn ≤ 1000000000) :
    Calls Try.prog 30 #[ptr c, ptr r, .agg #[.int .i64 3, .int .i64 kk, .string val]] w fun x w' => x = .returned (.bool true) ∧
      ∃ fp', DuoP w' c r n (tellPE ep n 3 kk val) (hits + tellH (ep.map toE) 3 (dkey kk)) (misses + tellM (ep.map toE) 3 (dkey kk)) (gn + tellG (ep.map toE) n 3 (dkey kk)) fp' ∧ Turn fp w w' ∧ ∀ b, fp' b → fp b ∨ w.heap.size ≤ b := by
  have HG := Lib.hid hg
  have HGG := Lib.hid hg.good
  have HH := Lib.hid (And.intro h1 (And.intro h2 h3))
  have HK := Lib.hid hkk
  obtain ⟨fp1, fp2, hc, hr, hd, hfp⟩ := H
  have HFP := Lib.hid hfp
  have HD0 := Lib.hid hd
  obtain ⟨w0, hw0⟩ : ∃ w0, w0 = w.alloc (.cells #[.int .i64 3, .int .i64 kk, .string val] 35) := ⟨_, rfl⟩
  have HT0 := Lib.hid (show Turn fp w w0 by rw [hw0]; exact (Turn.refl _ _).alloc _)
  have hnews := (MapKept.heap_alloc w (.cells #[.int .i64 3, .int .i64 kk, .string val] 35)).1
  rw [← hw0] at hnews
  have hb0 : Below w.heap.size w w0 := by rw [hw0]; exact (Below.refl _ _).alloc (Nat.le_refl _) _
  have HO0 := Lib.hid (hc.keep (w' := w0) fun b hb => hb0.block b (hc.lt hb))
  have HR0 := Lib.hid (hr.keep (w' := w0) hb0.size fun b hb => hb0.block b (hr.lt hb))
  have HL := Lib.hid (show (ep.map toE).length ≤ 1000000 by have := hg.good.len; omega)
  have HLP := Lib.hid (show ep.length ≤ 1000000 by have := hg.len; omega)
  have hlt0 : w.heap.size < w0.heap.size := by rw [hw0]; simp
  have HLT0 := Lib.hid hlt0
  have hnf1 : ¬ fp1 w.heap.size := fun h => by have := hc.lt h; omega
  have HNF := Lib.hid hnf1
  have c0 : w0.cell? ⟨w.heap.size, 0, none⟩ = some (.int .i64 3) := by simp [World.cell?, hnews]
  have c1 : w0.cell? ⟨w.heap.size, 1, none⟩ = some (.int .i64 kk) := by simp [World.cell?, hnews]
  have c2 : w0.cell? ⟨w.heap.size, 2, none⟩ = some (.string val) := by simp [World.cell?, hnews]
  clear hg h1 h2 h3 hkk hnews hc hr hd hfp hb0 hlt0 hnf1
  go_enter Try.func30, Try.ntmps30
  go_upto_region 1 with (fail)
  rw [← hw0]
  clear hw0
  go_wp2_with fail
  refine (digits_calls kk HK.out _).mono ?_
  rintro x w1 ⟨rfl, rfl⟩
  have HKS := Lib.hid (show (dkey kk).size ≤ maxLen by have := dkey_size kk; unfold maxLen; omega)
  obtain ⟨k, hk⟩ : ∃ k, k = dkey kk := ⟨_, rfl⟩
  rw [← hk] at HKS ⊢
  have HKK := Lib.hid hk
  clear hk
  obtain ⟨q1, q2, q3⟩ := putPOut_toE HG.out.ks HK.out n hn0
  rw [← HKK.out] at q1 q2
  obtain ⟨R, hR⟩ : ∃ R, R = putPOut ep n kk := ⟨_, rfl⟩
  obtain ⟨S, hS⟩ : ∃ S, S = putOut (ep.map toE) n k := ⟨_, rfl⟩
  rw [← hR, ← hS] at q1 q2
  rw [← hR] at q3
  have Q1 := Lib.hid hR
  have Q2 := Lib.hid hS
  clear hR hS
  obtain ⟨old, ok⟩ := R
  obtain ⟨olds, ok2⟩ := S
  have q1 : ok2 = ok := q1
  subst q1
  have Q3 := Lib.hid (show ok2 = true → olds = dkey old ∧ InI64 old from q2)
  have Q4 := Lib.hid (show ok2 = false → old = 0 from q3)
  clear q2 q3
  go_wp2_with fail
  refine (putOP kk (val, (val.size : Int)) HO0.out HK.out HG.out.ks hn0 HG.out.len HLP.out HH.out.2.2).mono ?_
  rintro x w2 ⟨rfl, f1, hc, ht, hf⟩
  obtain ⟨hr, hd⟩ := duoP_c HR0.out HD0.out ht hf
  have d2 : w2.cell? ⟨w.heap.size, 2, none⟩ = some (.string val) := by rw [ht.cell HLT0.out HNF.out]; exact c2
  have HC2 := Lib.hid hc
  have HR2 := Lib.hid hr
  have HD2 := Lib.hid hd
  have HT2 := Lib.hid ht
  have HF2 := Lib.hid hf
  clear hc hr hd ht hf c0 c1 c2
  rw [← Q1.out]
  go_wp2_with fail
  refine (putR k val HR2.out hn0 HGG.out.len HL.out HH.out.2.2).mono ?_
  rintro x w3 ⟨rfl, f2, hr, ht, hf⟩
  obtain ⟨hc, hd⟩ := duoP_r HC2.out HD2.out ht hf
  have HR := Lib.hid (show ∃ fp', DuoP w3 c r n (tellPE ep n 3 kk val) (hits + tellH (ep.map toE) 3 k) (misses + tellM (ep.map toE) 3 k) (gn + tellG (ep.map toE) n 3 k) fp' ∧ Turn fp w w3 ∧ ∀ b, fp' b → fp b ∨ w.heap.size ≤ b from by
    have hc2 := hc
    have hr2 := hr
    have hfs : (putPOut ep n kk).2 = (putOut (ep.map toE) n k).2 := by rw [← Q1.out, ← Q2.out]
    rw [hfs] at hc2
    unfold tellPE tellH tellM tellG
    simp only [Int.add_zero, if_true, Int.reduceEq, if_false]
    have heq : putE (ep.map toE) n k val = (putPE ep n kk (val, (val.size : Int))).map toE := (by rw [HKK.out]; exact putP_toE HG.out.ks HK.out n val _)
    rw [heq] at hr2
    exact duoP_end HFP.out HT0.out (by simpa using hc2) (by simpa using hr2) hd HT2.out HF2.out ht hf)
  clear hc hr hd ht hf
  rw [← Q2.out]
  cases ok2
  · obtain rfl : old = 0 := Q4.out rfl
    clear d2
    go_wp2
    go_ret
    exact ⟨rfl, by rw [← HKK.out]; exact HR.out⟩
  · obtain ⟨rfl, hio⟩ := Q3.out rfl
    have HIO := Lib.hid hio
    have hst := str_eq (dkey old)
    clear hio d2
    go_wp2_with fail
    refine (digits_calls old HIO.out _).mono ?_
    rintro x w5 ⟨rfl, rfl⟩
    go_wp2
    go_ret
    exact ⟨rfl, by rw [← HKK.out]; exact HR.out⟩
set_option maxHeartbeats 4000000 in
set_option maxRecDepth 100000 in
theorem num_4 {gn hits misses : Int} {fp : Nat → Prop} (kk : Int) (val : ByteArray) (H : DuoP w c r n ep hits misses gn fp) (hg : GoodP ep n) (hn0 : 0 ≤ n) (hn1 : n ≤ 4096) (hkk : InI64 kk)
    (h1 : -1000000000 ≤ hits ∧ hits ≤ 1000000000) (h2 : -1000000000 ≤ misses ∧ misses ≤ 1000000000) (h3 : -1000000000 ≤ gn ∧ gn ≤ 1000000000) :
    Calls Try.prog 30 #[ptr c, ptr r, .agg #[.int .i64 4, .int .i64 kk, .string val]] w fun x w' => x = .returned (.bool true) ∧
      ∃ fp', DuoP w' c r n (tellPE ep n 4 kk val) (hits + tellH (ep.map toE) 4 (dkey kk)) (misses + tellM (ep.map toE) 4 (dkey kk)) (gn + tellG (ep.map toE) n 4 (dkey kk)) fp' ∧ Turn fp w w' ∧ ∀ b, fp' b → fp b ∨ w.heap.size ≤ b := by
  have HG := Lib.hid hg
  have HGG := Lib.hid hg.good
  have HH := Lib.hid (And.intro h1 (And.intro h2 h3))
  have HK := Lib.hid hkk
  obtain ⟨fp1, fp2, hc, hr, hd, hfp⟩ := H
  have HFP := Lib.hid hfp
  have HD0 := Lib.hid hd
  obtain ⟨w0, hw0⟩ : ∃ w0, w0 = w.alloc (.cells #[.int .i64 4, .int .i64 kk, .string val] 35) := ⟨_, rfl⟩
  have HT0 := Lib.hid (show Turn fp w w0 by rw [hw0]; exact (Turn.refl _ _).alloc _)
  have hnews := (MapKept.heap_alloc w (.cells #[.int .i64 4, .int .i64 kk, .string val] 35)).1
  rw [← hw0] at hnews
  have hb0 : Below w.heap.size w w0 := by rw [hw0]; exact (Below.refl _ _).alloc (Nat.le_refl _) _
  have HO0 := Lib.hid (hc.keep (w' := w0) fun b hb => hb0.block b (hc.lt hb))
  have HR0 := Lib.hid (hr.keep (w' := w0) hb0.size fun b hb => hb0.block b (hr.lt hb))
  have HL := Lib.hid (show (ep.map toE).length ≤ 1000000 by have := hg.good.len; omega)
  have HLP := Lib.hid (show ep.length ≤ 1000000 by have := hg.len; omega)
  have hlt0 : w.heap.size < w0.heap.size := by rw [hw0]; simp
  have HLT0 := Lib.hid hlt0
  have hnf1 : ¬ fp1 w.heap.size := fun h => by have := hc.lt h; omega
  have HNF := Lib.hid hnf1
  have c0 : w0.cell? ⟨w.heap.size, 0, none⟩ = some (.int .i64 4) := by simp [World.cell?, hnews]
  have c1 : w0.cell? ⟨w.heap.size, 1, none⟩ = some (.int .i64 kk) := by simp [World.cell?, hnews]
  have c2 : w0.cell? ⟨w.heap.size, 2, none⟩ = some (.string val) := by simp [World.cell?, hnews]
  clear hg h1 h2 h3 hkk hnews hc hr hd hfp hb0 hlt0 hnf1
  go_enter Try.func30, Try.ntmps30
  go_upto_region 1 with (fail)
  rw [← hw0]
  clear hw0
  go_wp2_with fail
  refine (digits_calls kk HK.out _).mono ?_
  rintro x w1 ⟨rfl, rfl⟩
  have HKS := Lib.hid (show (dkey kk).size ≤ maxLen by have := dkey_size kk; unfold maxLen; omega)
  obtain ⟨k, hk⟩ : ∃ k, k = dkey kk := ⟨_, rfl⟩
  rw [← hk] at HKS ⊢
  have HKK := Lib.hid hk
  clear hk
  have q1 := findP_some HG.out.ks HK.out
  rw [← HKK.out] at q1
  obtain ⟨ok, hok⟩ : ∃ ok, ok = (findV ep kk).isSome := ⟨_, rfl⟩
  have Q2 := Lib.hid hok.symm
  rw [← hok] at q1
  have Q4 := Lib.hid q1
  clear q1 hok
  go_wp2_with fail
  refine (dropOP kk HO0.out HK.out).mono ?_
  rintro x w2 ⟨rfl, f1, hc, ht, hf⟩
  obtain ⟨hr, hd⟩ := duoP_c HR0.out HD0.out ht hf
  have HC2 := Lib.hid hc
  have HR2 := Lib.hid hr
  have HD2 := Lib.hid hd
  have HT2 := Lib.hid ht
  have HF2 := Lib.hid hf
  clear hc hr hd ht hf c0 c1 c2
  rw [Q2.out]
  go_wp2_with fail
  refine (dropR k HR2.out HL.out).mono ?_
  rintro x w3 ⟨rfl, f2, hr, ht, hf⟩
  obtain ⟨hc, hd⟩ := duoP_r HC2.out HD2.out ht hf
  have HR := Lib.hid (show ∃ fp', DuoP w3 c r n (tellPE ep n 4 kk val) (hits + tellH (ep.map toE) 4 k) (misses + tellM (ep.map toE) 4 k) (gn + tellG (ep.map toE) n 4 k) fp' ∧ Turn fp w w3 ∧ ∀ b, fp' b → fp b ∨ w.heap.size ≤ b from by
    have hc2 := hc
    have hr2 := hr
    unfold tellPE tellH tellM tellG
    simp only [Int.add_zero, if_true, Int.reduceEq, if_false]
    have heq : rem (ep.map toE) k = (rem ep kk).map toE := (by rw [HKK.out]; exact remP HG.out.ks HK.out)
    rw [heq] at hr2
    exact duoP_end HFP.out HT0.out (by simpa using hc2) (by simpa using hr2) hd HT2.out HF2.out ht hf)
  clear hc hr hd ht hf
  rw [Q4.out]
  cases ok <;> (go_wp2; go_ret; exact ⟨rfl, by rw [← HKK.out]; exact HR.out⟩)
set_option maxHeartbeats 4000000 in
set_option maxRecDepth 100000 in
theorem num_5 {gn hits misses : Int} {fp : Nat → Prop} (kk : Int) (val : ByteArray) (H : DuoP w c r n ep hits misses gn fp) (hg : GoodP ep n) (hn0 : 0 ≤ n) (hn1 : n ≤ 4096) (hkk : InI64 kk)
    (h1 : -1000000000 ≤ hits ∧ hits ≤ 1000000000) (h2 : -1000000000 ≤ misses ∧ misses ≤ 1000000000) (h3 : -1000000000 ≤ gn ∧ gn ≤ 1000000000) :
    Calls Try.prog 30 #[ptr c, ptr r, .agg #[.int .i64 5, .int .i64 kk, .string val]] w fun x w' => x = .returned (.bool true) ∧
      ∃ fp', DuoP w' c r n (tellPE ep n 5 kk val) (hits + tellH (ep.map toE) 5 (dkey kk)) (misses + tellM (ep.map toE) 5 (dkey kk)) (gn + tellG (ep.map toE) n 5 (dkey kk)) fp' ∧ Turn fp w w' ∧ ∀ b, fp' b → fp b ∨ w.heap.size ≤ b := by
  have HG := Lib.hid hg
  have HGG := Lib.hid hg.good
  have HH := Lib.hid (And.intro h1 (And.intro h2 h3))
  have HK := Lib.hid hkk
  obtain ⟨fp1, fp2, hc, hr, hd, hfp⟩ := H
  have HFP := Lib.hid hfp
  have HD0 := Lib.hid hd
  obtain ⟨w0, hw0⟩ : ∃ w0, w0 = w.alloc (.cells #[.int .i64 5, .int .i64 kk, .string val] 35) := ⟨_, rfl⟩
  have HT0 := Lib.hid (show Turn fp w w0 by rw [hw0]; exact (Turn.refl _ _).alloc _)
  have hnews := (MapKept.heap_alloc w (.cells #[.int .i64 5, .int .i64 kk, .string val] 35)).1
  rw [← hw0] at hnews
  have hb0 : Below w.heap.size w w0 := by rw [hw0]; exact (Below.refl _ _).alloc (Nat.le_refl _) _
  have HO0 := Lib.hid (hc.keep (w' := w0) fun b hb => hb0.block b (hc.lt hb))
  have HR0 := Lib.hid (hr.keep (w' := w0) hb0.size fun b hb => hb0.block b (hr.lt hb))
  have HL := Lib.hid (show (ep.map toE).length ≤ 1000000 by have := hg.good.len; omega)
  have HLP := Lib.hid (show ep.length ≤ 1000000 by have := hg.len; omega)
  have hlt0 : w.heap.size < w0.heap.size := by rw [hw0]; simp
  have HLT0 := Lib.hid hlt0
  have hnf1 : ¬ fp1 w.heap.size := fun h => by have := hc.lt h; omega
  have HNF := Lib.hid hnf1
  have c0 : w0.cell? ⟨w.heap.size, 0, none⟩ = some (.int .i64 5) := by simp [World.cell?, hnews]
  have c1 : w0.cell? ⟨w.heap.size, 1, none⟩ = some (.int .i64 kk) := by simp [World.cell?, hnews]
  have c2 : w0.cell? ⟨w.heap.size, 2, none⟩ = some (.string val) := by simp [World.cell?, hnews]
  clear hg h1 h2 h3 hkk hnews hc hr hd hfp hb0 hlt0 hnf1
  go_enter Try.func30, Try.ntmps30
  go_upto_region 1 with (fail)
  rw [← hw0]
  clear hw0
  go_wp2_with fail
  refine (digits_calls kk HK.out _).mono ?_
  rintro x w1 ⟨rfl, rfl⟩
  have HKS := Lib.hid (show (dkey kk).size ≤ maxLen by have := dkey_size kk; unfold maxLen; omega)
  obtain ⟨k, hk⟩ : ∃ k, k = dkey kk := ⟨_, rfl⟩
  rw [← hk] at HKS ⊢
  have HKK := Lib.hid hk
  clear hk
  go_wp2_with fail
  refine (clearOP HO0.out).mono ?_
  rintro x w2 ⟨rfl, f1, hc, ht, hf⟩
  obtain ⟨hr, hd⟩ := duoP_c HR0.out HD0.out ht hf
  have HC2 := Lib.hid hc
  have HR2 := Lib.hid hr
  have HD2 := Lib.hid hd
  have HT2 := Lib.hid ht
  have HF2 := Lib.hid hf
  clear hc hr hd ht hf c0 c1 c2
  go_wp2_with fail
  refine (clearR HR2.out).mono ?_
  rintro x w3 ⟨rfl, f2, hr, ht, hf⟩
  obtain ⟨hc, hd⟩ := duoP_r HC2.out HD2.out ht hf
  have HR := Lib.hid (show ∃ fp', DuoP w3 c r n (tellPE ep n 5 kk val) (hits + tellH (ep.map toE) 5 k) (misses + tellM (ep.map toE) 5 k) (gn + tellG (ep.map toE) n 5 k) fp' ∧ Turn fp w w3 ∧ ∀ b, fp' b → fp b ∨ w.heap.size ≤ b from by
    have hc2 := hc
    have hr2 := hr
    unfold tellPE tellH tellM tellG
    simp only [Int.add_zero, if_true, Int.reduceEq, if_false]
    exact duoP_end HFP.out HT0.out (by simpa using hc2) (by simpa using hr2) hd HT2.out HF2.out ht hf)
  clear hc hr hd ht hf
  go_wp2
  go_ret
  exact ⟨rfl, by rw [← HKK.out]; exact HR.out⟩
set_option maxHeartbeats 4000000 in
set_option maxRecDepth 100000 in
theorem num_6 {gn hits misses : Int} {fp : Nat → Prop} (kk : Int) (val : ByteArray) (H : DuoP w c r n ep hits misses gn fp) (hg : GoodP ep n) (hn0 : 0 ≤ n) (hn1 : n ≤ 4096) (hkk : InI64 kk)
    (h1 : -1000000000 ≤ hits ∧ hits ≤ 1000000000) (h2 : -1000000000 ≤ misses ∧ misses ≤ 1000000000) (h3 : -1000000000 ≤ gn ∧ gn ≤ 1000000000) :
    Calls Try.prog 30 #[ptr c, ptr r, .agg #[.int .i64 6, .int .i64 kk, .string val]] w fun x w' => x = .returned (.bool true) ∧
      ∃ fp', DuoP w' c r n (tellPE ep n 6 kk val) (hits + tellH (ep.map toE) 6 (dkey kk)) (misses + tellM (ep.map toE) 6 (dkey kk)) (gn + tellG (ep.map toE) n 6 (dkey kk)) fp' ∧ Turn fp w w' ∧ ∀ b, fp' b → fp b ∨ w.heap.size ≤ b := by
  have HG := Lib.hid hg
  have HGG := Lib.hid hg.good
  have HH := Lib.hid (And.intro h1 (And.intro h2 h3))
  have HK := Lib.hid hkk
  obtain ⟨fp1, fp2, hc, hr, hd, hfp⟩ := H
  have HFP := Lib.hid hfp
  have HD0 := Lib.hid hd
  obtain ⟨w0, hw0⟩ : ∃ w0, w0 = w.alloc (.cells #[.int .i64 6, .int .i64 kk, .string val] 35) := ⟨_, rfl⟩
  have HT0 := Lib.hid (show Turn fp w w0 by rw [hw0]; exact (Turn.refl _ _).alloc _)
  have hnews := (MapKept.heap_alloc w (.cells #[.int .i64 6, .int .i64 kk, .string val] 35)).1
  rw [← hw0] at hnews
  have hb0 : Below w.heap.size w w0 := by rw [hw0]; exact (Below.refl _ _).alloc (Nat.le_refl _) _
  have HO0 := Lib.hid (hc.keep (w' := w0) fun b hb => hb0.block b (hc.lt hb))
  have HR0 := Lib.hid (hr.keep (w' := w0) hb0.size fun b hb => hb0.block b (hr.lt hb))
  have HL := Lib.hid (show (ep.map toE).length ≤ 1000000 by have := hg.good.len; omega)
  have HLP := Lib.hid (show ep.length ≤ 1000000 by have := hg.len; omega)
  have hlt0 : w.heap.size < w0.heap.size := by rw [hw0]; simp
  have HLT0 := Lib.hid hlt0
  have hnf1 : ¬ fp1 w.heap.size := fun h => by have := hc.lt h; omega
  have HNF := Lib.hid hnf1
  have c0 : w0.cell? ⟨w.heap.size, 0, none⟩ = some (.int .i64 6) := by simp [World.cell?, hnews]
  have c1 : w0.cell? ⟨w.heap.size, 1, none⟩ = some (.int .i64 kk) := by simp [World.cell?, hnews]
  have c2 : w0.cell? ⟨w.heap.size, 2, none⟩ = some (.string val) := by simp [World.cell?, hnews]
  clear hg h1 h2 h3 hkk hnews hc hr hd hfp hb0 hlt0 hnf1
  go_enter Try.func30, Try.ntmps30
  go_upto_region 1 with (fail)
  rw [← hw0]
  clear hw0
  go_wp2_with fail
  refine (digits_calls kk HK.out _).mono ?_
  rintro x w1 ⟨rfl, rfl⟩
  have HKS := Lib.hid (show (dkey kk).size ≤ maxLen by have := dkey_size kk; unfold maxLen; omega)
  obtain ⟨k, hk⟩ : ∃ k, k = dkey kk := ⟨_, rfl⟩
  rw [← hk] at HKS ⊢
  have HKK := Lib.hid hk
  clear hk
  go_wp2_with fail
  refine (lenOP HO0.out).mono ?_
  rintro x w2 ⟨rfl, hw2⟩
  have hb : Below w0.heap.size w0 w2 := hw2 ▸ Below.refl _ _
  clear hw2
  have hc := HO0.out.keep (w' := w2) fun b hb' => hb.block b (HO0.out.lt hb')
  have ht : Turn fp1 w0 w2 := Turn.of_below hb
  obtain ⟨f1, hf1⟩ : ∃ f1, f1 = fp1 := ⟨_, rfl⟩
  rw [← hf1] at hc
  have hf : ∀ b, f1 b → fp1 b ∨ w0.heap.size ≤ b := fun b h => .inl (hf1 ▸ h)
  clear hf1 hb
  obtain ⟨hr, hd⟩ := duoP_c HR0.out HD0.out ht hf
  have HC2 := Lib.hid hc
  have HR2 := Lib.hid hr
  have HD2 := Lib.hid hd
  have HT2 := Lib.hid ht
  have HF2 := Lib.hid hf
  clear hc hr hd ht hf c0 c1 c2
  go_wp2_with fail
  refine (lenR HR2.out).mono ?_
  rintro x w3 ⟨rfl, hw2⟩
  have hb : Below w2.heap.size w2 w3 := hw2 ▸ Below.refl _ _
  clear hw2
  have hr := HR2.out.keep (w' := w3) hb.size fun b hb' => hb.block b (HR2.out.lt hb')
  have ht : Turn fp2 w2 w3 := Turn.of_below hb
  obtain ⟨f2, hf2⟩ : ∃ f2, f2 = fp2 := ⟨_, rfl⟩
  rw [← hf2] at hr
  have hf : ∀ b, f2 b → fp2 b ∨ w2.heap.size ≤ b := fun b h => .inl (hf2 ▸ h)
  clear hf2 hb
  obtain ⟨hc, hd⟩ := duoP_r HC2.out HD2.out ht hf
  have HR := Lib.hid (show ∃ fp', DuoP w3 c r n (tellPE ep n 6 kk val) (hits + tellH (ep.map toE) 6 k) (misses + tellM (ep.map toE) 6 k) (gn + tellG (ep.map toE) n 6 k) fp' ∧ Turn fp w w3 ∧ ∀ b, fp' b → fp b ∨ w.heap.size ≤ b from by
    have hc2 := hc
    have hr2 := hr
    unfold tellPE tellH tellM tellG
    simp only [Int.add_zero, if_true, Int.reduceEq, if_false]
    exact duoP_end HFP.out HT0.out (by simpa using hc2) (by simpa using hr2) hd HT2.out HF2.out ht hf)
  clear hc hr hd ht hf
  go_wp2
  go_ret
  exact ⟨rfl, by rw [← HKK.out]; exact HR.out⟩
set_option maxHeartbeats 4000000 in
set_option maxRecDepth 100000 in
theorem num_7 {gn hits misses : Int} {fp : Nat → Prop} (kk : Int) (val : ByteArray) (H : DuoP w c r n ep hits misses gn fp) (hg : GoodP ep n) (hn0 : 0 ≤ n) (hn1 : n ≤ 4096) (hkk : InI64 kk)
    (h1 : -1000000000 ≤ hits ∧ hits ≤ 1000000000) (h2 : -1000000000 ≤ misses ∧ misses ≤ 1000000000) (h3 : -1000000000 ≤ gn ∧ gn ≤ 1000000000) :
    Calls Try.prog 30 #[ptr c, ptr r, .agg #[.int .i64 7, .int .i64 kk, .string val]] w fun x w' => x = .returned (.bool true) ∧
      ∃ fp', DuoP w' c r n (tellPE ep n 7 kk val) (hits + tellH (ep.map toE) 7 (dkey kk)) (misses + tellM (ep.map toE) 7 (dkey kk)) (gn + tellG (ep.map toE) n 7 (dkey kk)) fp' ∧ Turn fp w w' ∧ ∀ b, fp' b → fp b ∨ w.heap.size ≤ b := by
  have HG := Lib.hid hg
  have HGG := Lib.hid hg.good
  have HH := Lib.hid (And.intro h1 (And.intro h2 h3))
  have HK := Lib.hid hkk
  obtain ⟨fp1, fp2, hc, hr, hd, hfp⟩ := H
  have HFP := Lib.hid hfp
  have HD0 := Lib.hid hd
  obtain ⟨w0, hw0⟩ : ∃ w0, w0 = w.alloc (.cells #[.int .i64 7, .int .i64 kk, .string val] 35) := ⟨_, rfl⟩
  have HT0 := Lib.hid (show Turn fp w w0 by rw [hw0]; exact (Turn.refl _ _).alloc _)
  have hnews := (MapKept.heap_alloc w (.cells #[.int .i64 7, .int .i64 kk, .string val] 35)).1
  rw [← hw0] at hnews
  have hb0 : Below w.heap.size w w0 := by rw [hw0]; exact (Below.refl _ _).alloc (Nat.le_refl _) _
  have HO0 := Lib.hid (hc.keep (w' := w0) fun b hb => hb0.block b (hc.lt hb))
  have HR0 := Lib.hid (hr.keep (w' := w0) hb0.size fun b hb => hb0.block b (hr.lt hb))
  have HL := Lib.hid (show (ep.map toE).length ≤ 1000000 by have := hg.good.len; omega)
  have HLP := Lib.hid (show ep.length ≤ 1000000 by have := hg.len; omega)
  have hlt0 : w.heap.size < w0.heap.size := by rw [hw0]; simp
  have HLT0 := Lib.hid hlt0
  have hnf1 : ¬ fp1 w.heap.size := fun h => by have := hc.lt h; omega
  have HNF := Lib.hid hnf1
  have c0 : w0.cell? ⟨w.heap.size, 0, none⟩ = some (.int .i64 7) := by simp [World.cell?, hnews]
  have c1 : w0.cell? ⟨w.heap.size, 1, none⟩ = some (.int .i64 kk) := by simp [World.cell?, hnews]
  have c2 : w0.cell? ⟨w.heap.size, 2, none⟩ = some (.string val) := by simp [World.cell?, hnews]
  clear hg h1 h2 h3 hkk hnews hc hr hd hfp hb0 hlt0 hnf1
  go_enter Try.func30, Try.ntmps30
  go_upto_region 1 with (fail)
  rw [← hw0]
  clear hw0
  go_wp2_with fail
  refine (digits_calls kk HK.out _).mono ?_
  rintro x w1 ⟨rfl, rfl⟩
  have HKS := Lib.hid (show (dkey kk).size ≤ maxLen by have := dkey_size kk; unfold maxLen; omega)
  obtain ⟨k, hk⟩ : ∃ k, k = dkey kk := ⟨_, rfl⟩
  rw [← hk] at HKS ⊢
  have HKK := Lib.hid hk
  clear hk
  go_wp2_with fail
  refine (keysOP HO0.out HLP.out).mono ?_
  rintro x w2 ⟨v1, rfl, hrow, hb⟩
  have hc := HO0.out.keep (w' := w2) fun b hb' => hb.block b (HO0.out.lt hb')
  have ht : Turn fp1 w0 w2 := Turn.of_below hb
  obtain ⟨f1, hf1⟩ : ∃ f1, f1 = fp1 := ⟨_, rfl⟩
  rw [← hf1] at hc
  have hf : ∀ b, f1 b → fp1 b ∨ w0.heap.size ≤ b := fun b h => .inl (hf1 ▸ h)
  clear hf1 hb
  obtain ⟨hr, hd⟩ := duoP_c HR0.out HD0.out ht hf
  have HC2 := Lib.hid hc
  have HR2 := Lib.hid hr
  have HD2 := Lib.hid hd
  have HT2 := Lib.hid ht
  have HF2 := Lib.hid hf
  clear hc hr hd ht hf c0 c1 c2
  obtain ⟨ks, hks⟩ : ∃ ks, ks = ep.map (·.1) := ⟨_, rfl⟩
  have hkl : ks.length ≤ 1000000 := by rw [hks, List.length_map]; exact HLP.out
  have HKI := Lib.hid (show ∀ z ∈ ks, InI64 z from fun z hz => by rw [hks] at hz; obtain ⟨x, hx, rfl⟩ := List.mem_map.1 hz; exact HG.out.ks x hx)
  have HKE := Lib.hid (show ks.map dkey = (ep.map toE).map (·.1) by rw [hks, List.map_map, List.map_map]; rfl)
  have hkq : ep.length = ks.length := by rw [hks, List.length_map]
  rw [← hks, hkq] at hrow
  clear hks hkq
  obtain ⟨i0, hi0, hz0, hz1, hz2⟩ := info_parts info9
  obtain ⟨A, cap, rfl, hcp, hin⟩ := (SlIn.of_own hrow).ints
  have HC := Lib.hid hin
  clear hrow hin
  obtain ⟨B0, hB0⟩ : ∃ B0, B0 = w2.heap.size := ⟨_, rfl⟩
  have HB0 := Lib.hid hB0
  rw [← hB0] at HC
  clear hB0
  go_wp2
  go_loopw [21, 22] (fun ov iv wr => ∃ i : Nat, iv = .int .i64 i ∧ i ≤ ks.length ∧ Hid (wr.ownsRow B0 9 1 ov ((ks.take i).map dkey).length (((ks.take i).map dkey).map Value.string)) ∧ Hid (Below B0 w2 wr)) (fun _ iv _ => ks.length - (intOf iv).toNat)
  case atStart => exact ⟨0, rfl, by omega, Lib.hid (World.ownsRow_nil _ _ _ _), Lib.hid (Below.refl _ _)⟩
  case round =>
    obtain ⟨i, rfl, hi', HO, HB⟩ := hrel
    by_cases hlt : i < ks.length
    · obtain ⟨b, o, rfl, hb, hC1⟩ := HC.out (by omega)
      have c0 : wr.cell? ⟨b, o + i, none⟩ = some (.int .i64 ks[i]) := by rw [HB.out.cell hb]; exact hC1 i hlt
      clear hC1
      have HT := Lib.hid (show (ks.take (i + 1)).map dkey = (ks.take i).map dkey ++ [dkey ks[i]] by rw [List.take_succ_eq_append_getElem hlt, List.map_append]; rfl)
      have HI := Lib.hid (HKI.out ks[i] (List.getElem_mem hlt))
      have HLN := Lib.hid (show ((ks.take i).map dkey).length ≤ i by rw [List.length_map, List.length_take]; omega)
      obtain ⟨x, hx⟩ : ∃ x, x = ks[i] := ⟨_, rfl⟩
      rw [← hx] at c0 HT HI
      clear hx
      obtain ⟨ys, hys⟩ : ∃ ys, ys = (ks.take i).map dkey := ⟨_, rfl⟩
      rw [← hys] at HO HT HLN
      clear hys
      go_wp2_with fail
      refine (digits_calls x HI.out _).mono ?_
      rintro x2 wx ⟨rfl, rfl⟩
      go_wp2_with (at_builtin; refine wpList_append_lies _ rfl (.tmp 178) (.tmp 184) 30 rfl B0 9 i0 (.string ⟨#[]⟩) 1 16 Try.underlying30 hi0 hz0 hz1 hz2 rfl (by decide) _ _ _ rfl (HO.out.alloc _) ⟨wr.heap.size, 0, none⟩ 1 1 [Value.string (dkey x)] rfl rfl (World.news_of_block (MapKept.heap_alloc _ _).1) (by intro u hu; simp at hu; subst hu; rfl) (by decide) (by have := HLN.out; unfold maxLen; omega) (by have := HLN.out; omega) (by have := HB.out.size; have := HB0.out; simp; omega) _ rfl ?_)
      intro g cap2 w4 hown2 hgrow hat hltg
      have HB2 := Lib.hid ((HB.out.alloc (by have := HB.out.size; have := HB0.out; omega) _).grown hgrow (by have := HB.out.size; have := HB0.out; simp; omega) (fun k hk => (HO.out.lt k hk).1))
      have HO2 : Hid (w4.ownsRow B0 9 1 (.slice (some ⟨g, 0, none⟩) (ys.length + 1) cap2) (ys ++ [dkey x]).length ((ys ++ [dkey x]).map Value.string)) := Lib.hid (by rw [List.length_append, List.map_append]; exact hown2)
      clear hown2 hgrow hat hltg
      go_wp2
      exact ⟨⟨i + 1, by go_num, by omega, Lib.hid (by rw [HT.out]; exact HO2.out), HB2⟩, by simp [intOf]; omega⟩
    · obtain rfl : i = ks.length := by omega
      have HE := Lib.hid (show (ks.take ks.length).map dkey = (ep.map toE).map (·.1) by rw [List.take_length]; exact HKE.out)
      rw [HE.out] at HO
      have HRW := Lib.hid (HR2.out.keep (w' := wr) (by have := HB.out.size; exact this) fun b hb => HB.out.block b (by have := HR2.out.lt hb; have := HB0.out; omega))
      have HS1 := Lib.hid (SlIn.of_own HO.out)
      go_wp2_with fail
      refine (keysR HRW.out HL.out).mono ?_
      rintro x w3' ⟨v2, rfl, hrow2, hb2⟩
      have HS2 := Lib.hid hrow2
      have HS1' := Lib.hid (HS1.out.below hb2)
      have HBB := Lib.hid hb2
      clear hrow2 hb2
      go_wp2_with fail
      refine (same_calls ((ep.map toE).map (·.1)) ((ep.map toE).map (·.1)) _ _ w3' _ _ HS1'.out HS2.out (by have := HL.out; rw [List.length_map]; omega) (by have := HL.out; rw [List.length_map]; omega)).mono ?_
      rintro x w3 ⟨rfl, hb3⟩
      rw [show sameB ((ep.map toE).map (·.1)) ((ep.map toE).map (·.1)) = true from decide_eq_true rfl]
      have hbw : Below w2.heap.size w2 wr := HB0.out ▸ HB.out
      have hb := (hbw.trans (HBB.out.mono hbw.size)).trans (hb3.mono (Nat.le_trans hbw.size HBB.out.size))
      have hr := HR2.out.keep (w' := w3) hb.size fun b hb' => hb.block b (HR2.out.lt hb')
      have ht : Turn fp2 w2 w3 := Turn.of_below hb
      obtain ⟨f2, hf2⟩ : ∃ f2, f2 = fp2 := ⟨_, rfl⟩
      rw [← hf2] at hr
      have hf : ∀ b, f2 b → fp2 b ∨ w2.heap.size ≤ b := fun b h => .inl (hf2 ▸ h)
      clear hf2 hb
      obtain ⟨hc, hd⟩ := duoP_r HC2.out HD2.out ht hf
      have HR := Lib.hid (show ∃ fp', DuoP w3 c r n (tellPE ep n 7 kk val) (hits + tellH (ep.map toE) 7 k) (misses + tellM (ep.map toE) 7 k) (gn + tellG (ep.map toE) n 7 k) fp' ∧ Turn fp w w3 ∧ ∀ b, fp' b → fp b ∨ w.heap.size ≤ b from by
        have hc2 := hc
        have hr2 := hr
        unfold tellPE tellH tellM tellG
        simp only [Int.add_zero, if_true, Int.reduceEq, if_false]
        exact duoP_end HFP.out HT0.out (by simpa using hc2) (by simpa using hr2) hd HT2.out HF2.out ht hf)
      clear hc hr hd ht hf
      go_wp2
      go_ret
      exact ⟨rfl, by rw [← HKK.out]; exact HR.out⟩
set_option maxHeartbeats 4000000 in
set_option maxRecDepth 100000 in
theorem num_8 {gn hits misses : Int} {fp : Nat → Prop} (kk : Int) (val : ByteArray) (H : DuoP w c r n ep hits misses gn fp) (hg : GoodP ep n) (hn0 : 0 ≤ n) (hn1 : n ≤ 4096) (hkk : InI64 kk)
    (h1 : -1000000000 ≤ hits ∧ hits ≤ 1000000000) (h2 : -1000000000 ≤ misses ∧ misses ≤ 1000000000) (h3 : -1000000000 ≤ gn ∧ gn ≤ 1000000000) :
    Calls Try.prog 30 #[ptr c, ptr r, .agg #[.int .i64 8, .int .i64 kk, .string val]] w fun x w' => x = .returned (.bool true) ∧
      ∃ fp', DuoP w' c r n (tellPE ep n 8 kk val) (hits + tellH (ep.map toE) 8 (dkey kk)) (misses + tellM (ep.map toE) 8 (dkey kk)) (gn + tellG (ep.map toE) n 8 (dkey kk)) fp' ∧ Turn fp w w' ∧ ∀ b, fp' b → fp b ∨ w.heap.size ≤ b := by
  have HG := Lib.hid hg
  have HGG := Lib.hid hg.good
  have HH := Lib.hid (And.intro h1 (And.intro h2 h3))
  have HK := Lib.hid hkk
  obtain ⟨fp1, fp2, hc, hr, hd, hfp⟩ := H
  have HFP := Lib.hid hfp
  have HD0 := Lib.hid hd
  obtain ⟨w0, hw0⟩ : ∃ w0, w0 = w.alloc (.cells #[.int .i64 8, .int .i64 kk, .string val] 35) := ⟨_, rfl⟩
  have HT0 := Lib.hid (show Turn fp w w0 by rw [hw0]; exact (Turn.refl _ _).alloc _)
  have hnews := (MapKept.heap_alloc w (.cells #[.int .i64 8, .int .i64 kk, .string val] 35)).1
  rw [← hw0] at hnews
  have hb0 : Below w.heap.size w w0 := by rw [hw0]; exact (Below.refl _ _).alloc (Nat.le_refl _) _
  have HO0 := Lib.hid (hc.keep (w' := w0) fun b hb => hb0.block b (hc.lt hb))
  have HR0 := Lib.hid (hr.keep (w' := w0) hb0.size fun b hb => hb0.block b (hr.lt hb))
  have HL := Lib.hid (show (ep.map toE).length ≤ 1000000 by have := hg.good.len; omega)
  have HLP := Lib.hid (show ep.length ≤ 1000000 by have := hg.len; omega)
  have hlt0 : w.heap.size < w0.heap.size := by rw [hw0]; simp
  have HLT0 := Lib.hid hlt0
  have hnf1 : ¬ fp1 w.heap.size := fun h => by have := hc.lt h; omega
  have HNF := Lib.hid hnf1
  have c0 : w0.cell? ⟨w.heap.size, 0, none⟩ = some (.int .i64 8) := by simp [World.cell?, hnews]
  have c1 : w0.cell? ⟨w.heap.size, 1, none⟩ = some (.int .i64 kk) := by simp [World.cell?, hnews]
  have c2 : w0.cell? ⟨w.heap.size, 2, none⟩ = some (.string val) := by simp [World.cell?, hnews]
  clear hg h1 h2 h3 hkk hnews hc hr hd hfp hb0 hlt0 hnf1
  go_enter Try.func30, Try.ntmps30
  go_upto_region 1 with (fail)
  rw [← hw0]
  clear hw0
  go_wp2_with fail
  refine (digits_calls kk HK.out _).mono ?_
  rintro x w1 ⟨rfl, rfl⟩
  have HKS := Lib.hid (show (dkey kk).size ≤ maxLen by have := dkey_size kk; unfold maxLen; omega)
  obtain ⟨k, hk⟩ : ∃ k, k = dkey kk := ⟨_, rfl⟩
  rw [← hk] at HKS ⊢
  have HKK := Lib.hid hk
  clear hk
  go_wp2_with fail
  refine (countsOP HO0.out).mono ?_
  rintro x w2 ⟨rfl, hb⟩
  have hc := HO0.out.keep (w' := w2) fun b hb' => hb.block b (HO0.out.lt hb')
  have ht : Turn fp1 w0 w2 := Turn.of_below hb
  obtain ⟨f1, hf1⟩ : ∃ f1, f1 = fp1 := ⟨_, rfl⟩
  rw [← hf1] at hc
  have hf : ∀ b, f1 b → fp1 b ∨ w0.heap.size ≤ b := fun b h => .inl (hf1 ▸ h)
  clear hf1 hb
  obtain ⟨hr, hd⟩ := duoP_c HR0.out HD0.out ht hf
  have HC2 := Lib.hid hc
  have HR2 := Lib.hid hr
  have HD2 := Lib.hid hd
  have HT2 := Lib.hid ht
  have HF2 := Lib.hid hf
  clear hc hr hd ht hf c0 c1 c2
  go_wp2_with fail
  refine (countsR HR2.out).mono ?_
  rintro x w3 ⟨rfl, hb⟩
  have hr := HR2.out.keep (w' := w3) hb.size fun b hb' => hb.block b (HR2.out.lt hb')
  have ht : Turn fp2 w2 w3 := Turn.of_below hb
  obtain ⟨f2, hf2⟩ : ∃ f2, f2 = fp2 := ⟨_, rfl⟩
  rw [← hf2] at hr
  have hf : ∀ b, f2 b → fp2 b ∨ w2.heap.size ≤ b := fun b h => .inl (hf2 ▸ h)
  clear hf2 hb
  obtain ⟨hc, hd⟩ := duoP_r HC2.out HD2.out ht hf
  have HR := Lib.hid (show ∃ fp', DuoP w3 c r n (tellPE ep n 8 kk val) (hits + tellH (ep.map toE) 8 k) (misses + tellM (ep.map toE) 8 k) (gn + tellG (ep.map toE) n 8 k) fp' ∧ Turn fp w w3 ∧ ∀ b, fp' b → fp b ∨ w.heap.size ≤ b from by
    have hc2 := hc
    have hr2 := hr
    unfold tellPE tellH tellM tellG
    simp only [Int.add_zero, if_true, Int.reduceEq, if_false]
    exact duoP_end HFP.out HT0.out (by simpa using hc2) (by simpa using hr2) hd HT2.out HF2.out ht hf)
  clear hc hr hd ht hf
  go_wp2
  go_ret
  exact ⟨rfl, by rw [← HKK.out]; exact HR.out⟩
set_option maxHeartbeats 4000000 in
set_option maxRecDepth 100000 in
theorem num_e {gn hits misses : Int} {fp : Nat → Prop} (kd : Int) (kk : Int) (val : ByteArray) (H : DuoP w c r n ep hits misses gn fp) (hg : GoodP ep n) (hn0 : 0 ≤ n) (hn1 : n ≤ 4096) (hkk : InI64 kk)
    (h1 : -1000000000 ≤ hits ∧ hits ≤ 1000000000) (h2 : -1000000000 ≤ misses ∧ misses ≤ 1000000000) (h3 : -1000000000 ≤ gn ∧ gn ≤ 1000000000) (e1 : kd ≠ 1) (e2 : kd ≠ 2) (e3 : kd ≠ 3) (e4 : kd ≠ 4) (e5 : kd ≠ 5) (e6 : kd ≠ 6) (e7 : kd ≠ 7) (e8 : kd ≠ 8) :
    Calls Try.prog 30 #[ptr c, ptr r, .agg #[.int .i64 kd, .int .i64 kk, .string val]] w fun x w' => x = .returned (.bool true) ∧
      ∃ fp', DuoP w' c r n (tellPE ep n kd kk val) (hits + tellH (ep.map toE) kd (dkey kk)) (misses + tellM (ep.map toE) kd (dkey kk)) (gn + tellG (ep.map toE) n kd (dkey kk)) fp' ∧ Turn fp w w' ∧ ∀ b, fp' b → fp b ∨ w.heap.size ≤ b := by
  have HG := Lib.hid hg
  have HGG := Lib.hid hg.good
  have HH := Lib.hid (And.intro h1 (And.intro h2 h3))
  have HK := Lib.hid hkk
  obtain ⟨fp1, fp2, hc, hr, hd, hfp⟩ := H
  have HFP := Lib.hid hfp
  have HD0 := Lib.hid hd
  obtain ⟨w0, hw0⟩ : ∃ w0, w0 = w.alloc (.cells #[.int .i64 kd, .int .i64 kk, .string val] 35) := ⟨_, rfl⟩
  have HT0 := Lib.hid (show Turn fp w w0 by rw [hw0]; exact (Turn.refl _ _).alloc _)
  have hnews := (MapKept.heap_alloc w (.cells #[.int .i64 kd, .int .i64 kk, .string val] 35)).1
  rw [← hw0] at hnews
  have hb0 : Below w.heap.size w w0 := by rw [hw0]; exact (Below.refl _ _).alloc (Nat.le_refl _) _
  have HO0 := Lib.hid (hc.keep (w' := w0) fun b hb => hb0.block b (hc.lt hb))
  have HR0 := Lib.hid (hr.keep (w' := w0) hb0.size fun b hb => hb0.block b (hr.lt hb))
  have HL := Lib.hid (show (ep.map toE).length ≤ 1000000 by have := hg.good.len; omega)
  have HLP := Lib.hid (show ep.length ≤ 1000000 by have := hg.len; omega)
  have hlt0 : w.heap.size < w0.heap.size := by rw [hw0]; simp
  have HLT0 := Lib.hid hlt0
  have hnf1 : ¬ fp1 w.heap.size := fun h => by have := hc.lt h; omega
  have HNF := Lib.hid hnf1
  have c0 : w0.cell? ⟨w.heap.size, 0, none⟩ = some (.int .i64 kd) := by simp [World.cell?, hnews]
  have c1 : w0.cell? ⟨w.heap.size, 1, none⟩ = some (.int .i64 kk) := by simp [World.cell?, hnews]
  have c2 : w0.cell? ⟨w.heap.size, 2, none⟩ = some (.string val) := by simp [World.cell?, hnews]
  clear hg h1 h2 h3 hkk hnews hc hr hd hfp hb0 hlt0 hnf1
  go_enter Try.func30, Try.ntmps30
  go_upto_region 1 with (fail)
  rw [← hw0]
  clear hw0
  go_wp2_with fail
  refine (digits_calls kk HK.out _).mono ?_
  rintro x w1 ⟨rfl, rfl⟩
  have HKS := Lib.hid (show (dkey kk).size ≤ maxLen by have := dkey_size kk; unfold maxLen; omega)
  obtain ⟨k, hk⟩ : ∃ k, k = dkey kk := ⟨_, rfl⟩
  rw [← hk] at HKS ⊢
  have HKK := Lib.hid hk
  clear hk
  have t1 : (kd == 1) = false := by rw [beq_eq_false_iff_ne]; exact e1
  have t2 : (kd == 2) = false := by rw [beq_eq_false_iff_ne]; exact e2
  have t3 : (kd == 3) = false := by rw [beq_eq_false_iff_ne]; exact e3
  have t4 : (kd == 4) = false := by rw [beq_eq_false_iff_ne]; exact e4
  have t5 : (kd == 5) = false := by rw [beq_eq_false_iff_ne]; exact e5
  have t6 : (kd == 6) = false := by rw [beq_eq_false_iff_ne]; exact e6
  have t7 : (kd == 7) = false := by rw [beq_eq_false_iff_ne]; exact e7
  have t8 : (kd == 8) = false := by rw [beq_eq_false_iff_ne]; exact e8
  have HR := Lib.hid (show ∃ fp', DuoP w0 c r n (tellPE ep n kd kk val) (hits + tellH (ep.map toE) kd k) (misses + tellM (ep.map toE) kd k) (gn + tellG (ep.map toE) n kd k) fp' ∧ Turn fp w w0 ∧ ∀ b, fp' b → fp b ∨ w.heap.size ≤ b from ⟨fp, by unfold tellPE tellH tellM tellG; simpa [e1, e3, e4, e5] using ⟨fp1, fp2, HO0.out, HR0.out, HD0.out, HFP.out⟩, HT0.out, fun b hb => .inl hb⟩)
  clear e1 e2 e3 e4 e5 e6 e7 e8
  go_wp2
  go_ret
  exact ⟨rfl, by rw [← HKK.out]; exact HR.out⟩

theorem numbers_calls {gn hits misses : Int} {fp : Nat → Prop} (kd kk : Int) (val : ByteArray) (H : DuoP w c r n ep hits misses gn fp) (hg : GoodP ep n) (hn0 : 0 ≤ n) (hn1 : n ≤ 4096) (hkk : InI64 kk)
    (h1 : -1000000000 ≤ hits ∧ hits ≤ 1000000000) (h2 : -1000000000 ≤ misses ∧ misses ≤ 1000000000) (h3 : -1000000000 ≤ gn ∧ gn ≤ 1000000000) :
    Calls Try.prog 30 #[ptr c, ptr r, .agg #[.int .i64 kd, .int .i64 kk, .string val]] w fun x w' => x = .returned (.bool true) ∧
      ∃ fp', DuoP w' c r n (tellPE ep n kd kk val) (hits + tellH (ep.map toE) kd (dkey kk)) (misses + tellM (ep.map toE) kd (dkey kk)) (gn + tellG (ep.map toE) n kd (dkey kk)) fp' ∧ Turn fp w w' ∧ ∀ b, fp' b → fp b ∨ w.heap.size ≤ b := by
  by_cases e1 : kd = 1
  · subst e1; exact num_1 kk val H hg hn0 hn1 hkk h1 h2 h3
  by_cases e2 : kd = 2
  · subst e2; exact num_2 kk val H hg hn0 hn1 hkk h1 h2 h3
  by_cases e3 : kd = 3
  · subst e3; exact num_3 kk val H hg hn0 hn1 hkk h1 h2 h3
  by_cases e4 : kd = 4
  · subst e4; exact num_4 kk val H hg hn0 hn1 hkk h1 h2 h3
  by_cases e5 : kd = 5
  · subst e5; exact num_5 kk val H hg hn0 hn1 hkk h1 h2 h3
  by_cases e6 : kd = 6
  · subst e6; exact num_6 kk val H hg hn0 hn1 hkk h1 h2 h3
  by_cases e7 : kd = 7
  · subst e7; exact num_7 kk val H hg hn0 hn1 hkk h1 h2 h3
  by_cases e8 : kd = 8
  · subst e8; exact num_8 kk val H hg hn0 hn1 hkk h1 h2 h3
  exact num_e kd kk val H hg hn0 hn1 hkk h1 h2 h3 e1 e2 e3 e4 e5 e6 e7 e8
end
end Go.Proofs.Ytfkdmbiejledoaa
