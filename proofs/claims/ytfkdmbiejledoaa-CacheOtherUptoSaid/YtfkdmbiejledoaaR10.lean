/-
  the law CacheOther, walked.
-/
import Derived.Test.YtfkdmbiejledoaaR8
import Derived.Test.YtfkdmbiejledoaaR9
set_option linter.unusedVariables false
set_option linter.unusedSimpArgs false
namespace Go.Proofs.Ytfkdmbiejledoaa
open Go.RowKit


structure SStP (j : Nat) (ep : Ep) (n h m g : Int) : Prop where
  good : GoodP ep n
  h : 0 ≤ h ∧ h ≤ j
  m : 0 ≤ m ∧ m ≤ j
  g : 0 ≤ g ∧ g ≤ j
def LiveP (w : World) (c r : Nat) (n : Int) (j : Nat) (fp : Nat → Prop) : Prop := ∃ ep h m g, DuoP w c r n ep h m g fp ∧ SStP j ep n h m g
section
variable {w w' : World} {c r j j' : Nat} {n : Int} {fp : Nat → Prop}
theorem LiveP.lt (H : LiveP w c r n j fp) {b : Nat} (hb : fp b) : b < w.heap.size := by
  obtain ⟨ep, a, b', d, ⟨f1, f2, h1, h2, _, h3⟩, _⟩ := H
  exact ((h3 b).1 hb).elim (fun h => h1.lt h) (fun h => h2.lt h)
theorem LiveP.keep (H : LiveP w c r n j fp) (hs : w.heap.size ≤ w'.heap.size) (hk : ∀ b, fp b → w'.heap[b]? = w.heap[b]?) : LiveP w' c r n j fp := by
  obtain ⟨ep, a, b', d, ⟨f1, f2, h1, h2, h4, h3⟩, h5⟩ := H
  exact ⟨ep, a, b', d, ⟨f1, f2, h1.keep fun b hb => hk b ((h3 b).2 (.inl hb)), h2.keep hs fun b hb => hk b ((h3 b).2 (.inr hb)), h4, h3⟩, h5⟩
theorem numbers_live (kd kk : Int) (val : ByteArray) (H : LiveP w c r n j fp) (hj : j ≤ 900000000) (hn0 : 0 ≤ n) (hn1 : n ≤ 4096) (hkd : InI64 kd) (hkk : InI64 kk) :
    Calls Try.prog 30 #[ptr c, ptr r, .agg #[.int .i64 kd, .int .i64 kk, .string val]] w fun x w' => x = .returned (.bool true) ∧
      ∃ fp', LiveP w' c r n (j + 1) fp' ∧ Turn fp w w' ∧ ∀ b, fp' b → fp b ∨ w.heap.size ≤ b := by
  obtain ⟨ep, h, m, g, hd, hs⟩ := H
  have hn : (ep.map (·.1)).Nodup := by obtain ⟨f1, f2, h1, _⟩ := hd; exact h1.nodup
  refine (numbers_calls kd kk val hd hs.good hn0 hn1 hkk (by have := hs.h; omega) (by have := hs.m; omega) (by have := hs.g; omega)).mono ?_
  rintro x w1 ⟨rfl, fp', h1, h2, h3⟩
  have hb := tell_bounds (ep.map toE) n kd (dkey kk)
  exact ⟨rfl, fp', ⟨_, _, _, _, h1, hs.good.tell hn hn0 hkk, by have := hs.h; omega, by have := hs.m; omega, by have := hs.g; omega⟩, h2, h3⟩
theorem new_liveP {w3 : World} {f1 f2 : Nat → Prop} (HC : CObj IP w3 c n [] 0 0 0 f1) (HR : RObj w3 r n [] 0 0 0 f2) (hd : ∀ b, f1 b → ¬ f2 b) (hn : 0 ≤ n) : LiveP w3 c r n 0 (fun b => f1 b ∨ f2 b) :=
  ⟨[], 0, 0, 0, ⟨f1, f2, HC, HR, hd, fun _ => Iff.rfl⟩, ⟨by simpa using hn, (fun x hx => by cases hx), fun x hx => by cases hx⟩, by omega, by omega, by omega⟩
theorem newP_no' (most : Int) (h : most < 0 ∨ 4096 < most) (w : World) : Calls Try.prog 29 #[.int .i64 most] w fun r w' => r = .returned (.pointer none) ∧ Below w.heap.size w w' :=
  (newP_no most h w).mono fun r w' ⟨h1, h2⟩ => ⟨h1, h2 ▸ Below.refl _ _⟩
end
set_option maxHeartbeats 4000000 in
set_option maxRecDepth 100000 in
theorem other_0 (most : Int) (os : List OpV) (v : Value) (w : World) (ha : most < 0 ∨ 4096 < most) :
    Calls Try.prog 7 #[.int .i64 most, v] w fun r w' => r = .returned (.bool true) ∧ Below w.heap.size w w' := by
  have HA := Lib.hid ha
  clear ha
  go_enter Try.func7, Try.ntmps7
  go_wp2_with fail
  refine (newP_no' most HA.out w).mono ?_
  rintro x w1 ⟨rfl, hb⟩
  have HBw1 := Lib.hid hb
  clear hb
  go_wp2_with fail
  refine (newS_no' most HA.out w1).mono ?_
  rintro x w2 ⟨rfl, hb⟩
  have HBw2 := Lib.hid hb
  clear hb
  go_wp2_with fail
  refine (newR_no' most HA.out w2).mono ?_
  rintro x w3 ⟨rfl, hb⟩
  have HBw3 := Lib.hid hb
  clear hb
  go_wp2_with fail
  refine (newR_no' most HA.out w3).mono ?_
  rintro x w4 ⟨rfl, hb⟩
  have HBw4 := Lib.hid hb
  clear hb
  have HBB := Lib.hid (((HBw1.out.trans (HBw2.out.mono HBw1.out.size)).trans (HBw3.out.mono (Nat.le_trans HBw1.out.size HBw2.out.size))).trans (HBw4.out.mono (Nat.le_trans HBw1.out.size (Nat.le_trans HBw2.out.size HBw3.out.size))))
  go_wp2
  go_ret
  exact ⟨rfl, HBB.out⟩
set_option maxHeartbeats 4000000 in
set_option maxRecDepth 100000 in
theorem other_1 (most : Int) (os : List OpV) (v : Value) (w : World) (hv : OpsIn w v os fun _ => True) (hl : os.length ≤ 2000000) (hos : ∀ x ∈ os, OpVOk x) (ha : 0 ≤ most ∧ most ≤ 4096) :
    Calls Try.prog 7 #[.int .i64 most, v] w fun r w' => r = .returned (.bool true) ∧ Below w.heap.size w w' := by
  have HOS := Lib.hid hos
  have HV := Lib.hid hv
  have HA := Lib.hid ha
  clear hos hv ha
  go_enter Try.func7, Try.ntmps7
  go_wp2_with fail
  refine (newOP most HA.out.1 HA.out.2 w).mono ?_
  rintro x w1 ⟨c, fc, rfl, hoc, hfc, hb⟩
  have HOc := Lib.hid hoc
  have HFc := Lib.hid hfc
  clear hoc hfc
  have HBw1 := Lib.hid hb
  clear hb
  go_wp2_with fail
  refine (newO most HA.out.1 HA.out.2 w1).mono ?_
  rintro x w2 ⟨d, fd, rfl, hod, hfd, hb⟩
  have HOd := Lib.hid hod
  have HFd := Lib.hid hfd
  clear hod hfd
  have HBw2 := Lib.hid hb
  clear hb
  go_wp2_with fail
  refine (newR most HA.out.1 HA.out.2 w2).mono ?_
  rintro x w3 ⟨r, fr, rfl, hor, hfr, hb⟩
  have HOr := Lib.hid hor
  have HFr := Lib.hid hfr
  clear hor hfr
  have HBw3 := Lib.hid hb
  clear hb
  go_wp2_with fail
  refine (newR most HA.out.1 HA.out.2 w3).mono ?_
  rintro x w4 ⟨s, fs, rfl, hos, hfs, hb⟩
  have HOs := Lib.hid hos
  have HFs := Lib.hid hfs
  clear hos hfs
  have HBw4 := Lib.hid hb
  clear hb
  have HBB := Lib.hid (((HBw1.out.trans (HBw2.out.mono HBw1.out.size)).trans (HBw3.out.mono (Nat.le_trans HBw1.out.size HBw2.out.size))).trans (HBw4.out.mono (Nat.le_trans HBw1.out.size (Nat.le_trans HBw2.out.size HBw3.out.size))))
  have HSZ := Lib.hid (show w.heap.size ≤ w1.heap.size ∧ w1.heap.size ≤ w2.heap.size ∧ w2.heap.size ≤ w3.heap.size ∧ w3.heap.size ≤ w4.heap.size from ⟨HBw1.out.size, HBw2.out.size, HBw3.out.size, HBw4.out.size⟩)
  have HXc := Lib.hid (show ∀ b, fc b → w.heap.size ≤ b ∧ b < w1.heap.size from fun b h => ⟨HFc.out b h, HOc.out.lt h⟩)
  have HXr := Lib.hid (show ∀ b, fr b → w2.heap.size ≤ b ∧ b < w3.heap.size from fun b h => ⟨HFr.out b h, HOr.out.lt h⟩)
  have HLA := Lib.hid (new_liveP (HOc.out.keep (w' := w4) fun b h => by have h1 := HXc.out b h; have h2 := HSZ.out; rw [HBw4.out.block b (by omega), HBw3.out.block b (by omega), HBw2.out.block b (by omega)]) (HOr.out.keep (w' := w4) HBw4.out.size fun b h => HBw4.out.block b (HXr.out b h).2) (fun b h1 h2 => by have := HXc.out b h1; have := HXr.out b h2; have := HSZ.out; omega) HA.out.1)
  have HXd := Lib.hid (show ∀ b, fd b → w1.heap.size ≤ b ∧ b < w2.heap.size from fun b h => ⟨HFd.out b h, HOd.out.lt h⟩)
  have HXs := Lib.hid (show ∀ b, fs b → w3.heap.size ≤ b ∧ b < w4.heap.size from fun b h => ⟨HFs.out b h, HOs.out.lt h⟩)
  have HLB := Lib.hid (new_live (w0 := w) (w1 := w) (w2 := w) (HOd.out.keep (w' := w4) fun b h => by have h1 := HXd.out b h; have h2 := HSZ.out; rw [HBw4.out.block b (by omega), HBw3.out.block b (by omega)]) HOs.out (fun b h1 h2 => by have := HXd.out b h1; have := HXs.out b h2; have := HSZ.out; omega) HA.out.1)
  have HDI := Lib.hid (show ∀ b, (fc b ∨ fr b) → ¬ (fd b ∨ fs b) from fun b h1 h2 => by
    have h3 := HSZ.out
    rcases h1 with h1 | h1 <;> rcases h2 with h2 | h2
    · have := HXc.out b h1; have := HXd.out b h2; omega
    · have := HXc.out b h1; have := HXs.out b h2; omega
    · have := HXr.out b h1; have := HXd.out b h2; omega
    · have := HXr.out b h1; have := HXs.out b h2; omega)
  have HGA := Lib.hid (show ∀ b, (fc b ∨ fr b) → w.heap.size ≤ b from fun b h => by have := HSZ.out; rcases h with h | h; exact (HXc.out b h).1; have := HXr.out b h; omega)
  have HGB := Lib.hid (show ∀ b, (fd b ∨ fs b) → w.heap.size ≤ b from fun b h => by have := HSZ.out; rcases h with h | h; have := HXd.out b h; omega; have := HXs.out b h; omega)
  obtain ⟨A, cap, rfl, hcap, hlc⟩ := HV.out
  clear hlc
  clear HOc HFc HOr HFr HXc HXr HOd HFd HOs HFs HXd HXs HBw1 HBw2 HBw3 HBw4
  go_wp2
  go_loopw [9] (fun iv wr => ∃ (i : Nat) (fA : Nat → Prop) (fB : Nat → Prop), iv = .int .i64 i ∧ i ≤ os.length ∧ Hid (LiveP wr c r most i fA) ∧ Hid (∀ b, fA b → w.heap.size ≤ b) ∧ Hid (Live wr d s most i fB) ∧ Hid (∀ b, fB b → w.heap.size ≤ b) ∧ Hid (∀ b, fA b → ¬ fB b) ∧ Hid (Below w.heap.size w wr)) (fun iv _ => os.length - (intOf iv).toNat)
  case atStart => exact ⟨0, (fun b => fc b ∨ fr b), (fun b => fd b ∨ fs b), rfl, Nat.zero_le _, HLA, HGA, HLB, HGB, HDI, HBB⟩
  case round =>
    clear HLA HGA HLB HGB HDI HBB HSZ
    obtain ⟨i, fA, fB, rfl, hi, HLA, HGA, HLB, HGB, HDI, HBB⟩ := hrel
    by_cases hlt : i < os.length
    · obtain ⟨b, o, rfl, hbs, hcells⟩ : ∃ b o, A = some ⟨b, o, none⟩ ∧ b < w.heap.size ∧ ∀ (j : Nat) u, (os[i]).cells[j]? = some u → wr.cell? ⟨b, o + i * 3 + j, none⟩ = some u := by
        obtain ⟨A2, cap2, e1, e2, e3⟩ := HV.out
        obtain ⟨b2, o2, e4, e5, e6, e7⟩ := e3 (by omega)
        injection e1 with e1 e8 e9
        rw [e4] at e1
        exact ⟨b2, o2, e1, e5, fun j u hu => by rw [HBB.out.cell (p := ⟨b2, o2 + i * 3 + j, none⟩) e5]; exact e7 i hlt j u hu⟩
      have HCC := Lib.hid (show wr.cell? ⟨b, o + i * 3, none⟩ = some (.int .i64 os[i].kind) ∧ wr.cell? ⟨b, o + i * 3 + 1, none⟩ = some (.int .i64 os[i].k) ∧ wr.cell? ⟨b, o + i * 3 + 2, none⟩ = some (.string os[i].val) from ⟨hcells 0 _ rfl, hcells 1 _ rfl, hcells 2 _ rfl⟩)
      have HX := Lib.hid (HOS.out _ (List.getElem_mem hlt))
      obtain ⟨x, hx⟩ : ∃ x, x = os[i] := ⟨_, rfl⟩
      rw [← hx] at HCC HX
      clear hcells hx
      obtain ⟨kd, kk, val⟩ := x
      obtain ⟨c0, c1, c2⟩ := HCC.out
      clear HCC
      have HBS := Lib.hid hbs
      clear hbs
      go_wp2_with fail
      refine (numbers_live kd kk val HLA.out (by omega) HA.out.1 HA.out.2 HX.out.1 HX.out.2.1).mono ?_
      rintro x w5 ⟨rfl, fA', hl', ht, hf⟩
      obtain ⟨s1, s2, s3⟩ := stepB HBB.out HBB.out.size HGA.out ht hf
      have HLB' := Lib.hid (HLB.out.keep (w' := w5) ht.size fun b hb => ht.block b (HLB.out.lt hb) (fun h => HDI.out b h hb))
      have HDI' := Lib.hid (show ∀ b, fA' b → ¬ fB b from fun b h1 h2 => (hf b h1).elim (fun h => HDI.out b h h2) (fun h => by have := HLB.out.lt h2; omega))
      have d0 : w5.cell? ⟨b, o + i * 3, none⟩ = some (.int .i64 kd) := by rw [ht.cell (p := ⟨b, o + i * 3, none⟩) (Nat.lt_of_lt_of_le HBS.out HBB.out.size) (fun h => by have := HGA.out b h; have := HBS.out; omega)]; exact c0
      have d1 : w5.cell? ⟨b, o + i * 3 + 1, none⟩ = some (.int .i64 kk) := by rw [ht.cell (p := ⟨b, o + i * 3 + 1, none⟩) (Nat.lt_of_lt_of_le HBS.out HBB.out.size) (fun h => by have := HGA.out b h; have := HBS.out; omega)]; exact c1
      have d2 : w5.cell? ⟨b, o + i * 3 + 2, none⟩ = some (.string val) := by rw [ht.cell (p := ⟨b, o + i * 3 + 2, none⟩) (Nat.lt_of_lt_of_le HBS.out HBB.out.size) (fun h => by have := HGA.out b h; have := HBS.out; omega)]; exact c2
      have HLA' := Lib.hid hl'
      have HGA' := Lib.hid s2
      have HBB' := Lib.hid s1
      clear hl' ht hf s1 s2 s3 c0 c1 c2 HBB HGA HLA HLB HDI
      have HLA := HLA'
      have HGA := HGA'
      have HBB := HBB'
      have HLB := HLB'
      have HDI := HDI'
      clear HLA' HGA' HBB' HLB' HDI'
      obtain ⟨fA, hfe⟩ : ∃ f, f = fA' := ⟨_, rfl⟩
      rw [← hfe] at HLA HGA HDI
      clear hfe
      obtain ⟨c0, c1, c2⟩ := (⟨d0, d1, d2⟩ : _ ∧ _ ∧ _)
      clear d0 d1 d2
      go_wp2_with fail
      refine (texts_live kd kk val HLB.out (by omega) HA.out.1 HA.out.2 HX.out.1 HX.out.2.1).mono ?_
      rintro x w6 ⟨rfl, fB', hl', ht, hf⟩
      obtain ⟨s1, s2, s3⟩ := stepB HBB.out HBB.out.size HGB.out ht hf
      have HLA' := Lib.hid (HLA.out.keep (w' := w6) ht.size fun b hb => ht.block b (HLA.out.lt hb) (fun h => HDI.out b hb h))
      have HDI' := Lib.hid (show ∀ b, fA b → ¬ fB' b from fun b h1 h2 => (hf b h2).elim (fun h => HDI.out b h1 h) (fun h => by have := HLA.out.lt h1; omega))
      have d0 : w6.cell? ⟨b, o + i * 3, none⟩ = some (.int .i64 kd) := by rw [ht.cell (p := ⟨b, o + i * 3, none⟩) (Nat.lt_of_lt_of_le HBS.out HBB.out.size) (fun h => by have := HGB.out b h; have := HBS.out; omega)]; exact c0
      have d1 : w6.cell? ⟨b, o + i * 3 + 1, none⟩ = some (.int .i64 kk) := by rw [ht.cell (p := ⟨b, o + i * 3 + 1, none⟩) (Nat.lt_of_lt_of_le HBS.out HBB.out.size) (fun h => by have := HGB.out b h; have := HBS.out; omega)]; exact c1
      have d2 : w6.cell? ⟨b, o + i * 3 + 2, none⟩ = some (.string val) := by rw [ht.cell (p := ⟨b, o + i * 3 + 2, none⟩) (Nat.lt_of_lt_of_le HBS.out HBB.out.size) (fun h => by have := HGB.out b h; have := HBS.out; omega)]; exact c2
      have HLB' := Lib.hid hl'
      have HGB' := Lib.hid s2
      have HBB' := Lib.hid s1
      clear hl' ht hf s1 s2 s3 c0 c1 c2 HBB HGB HLB HLA HDI
      have HLB := HLB'
      have HGB := HGB'
      have HBB := HBB'
      have HLA := HLA'
      have HDI := HDI'
      clear HLB' HGB' HBB' HLA' HDI'
      obtain ⟨fB, hfe⟩ : ∃ f, f = fB' := ⟨_, rfl⟩
      rw [← hfe] at HLB HGB HDI
      clear hfe
      obtain ⟨c0, c1, c2⟩ := (⟨d0, d1, d2⟩ : _ ∧ _ ∧ _)
      clear d0 d1 d2
      go_wp2
      exact ⟨⟨i + 1, fA, fB, by go_num, by omega, HLA, HGA, HLB, HGB, HDI, HBB⟩, by simp [intOf]; omega⟩
    · obtain rfl : i = os.length := by omega
      clear hlt hi HV HOS
      obtain ⟨I, hI⟩ : ∃ I, I = os.length := ⟨_, rfl⟩
      have HI := Lib.hid (show I ≤ 2000000 by omega)
      have HLA := Lib.hid (show LiveP wr c r most I fA by rw [hI]; exact HLA.out)
      have HLB := Lib.hid (show Live wr d s most I fB by rw [hI]; exact HLB.out)
      clear hI
      go_wp2_with fail
      refine (numbers_live 7 0 ⟨#[]⟩ HLA.out (by have := HI.out; omega) HA.out.1 HA.out.2 ⟨by decide, by decide⟩ ⟨by decide, by decide⟩).mono ?_
      rintro x w5 ⟨rfl, fA', hl', ht, hf⟩
      obtain ⟨s1, s2, s3⟩ := stepB HBB.out HBB.out.size HGA.out ht hf
      have HLB' := Lib.hid (HLB.out.keep (w' := w5) ht.size fun b hb => ht.block b (HLB.out.lt hb) (fun h => HDI.out b h hb))
      have HDI' := Lib.hid (show ∀ b, fA' b → ¬ fB b from fun b h1 h2 => (hf b h1).elim (fun h => HDI.out b h h2) (fun h => by have := HLB.out.lt h2; omega))
      have HLA' := Lib.hid hl'
      have HGA' := Lib.hid s2
      have HBB' := Lib.hid s1
      clear hl' ht hf s1 s2 s3 HBB HGA HLA HLB HDI
      have HLA := HLA'
      have HGA := HGA'
      have HBB := HBB'
      have HLB := HLB'
      have HDI := HDI'
      clear HLA' HGA' HBB' HLB' HDI'
      obtain ⟨fA, hfe⟩ : ∃ f, f = fA' := ⟨_, rfl⟩
      rw [← hfe] at HLA HGA HDI
      clear hfe
      go_wp2_with fail
      refine (numbers_live 8 0 ⟨#[]⟩ HLA.out (by have := HI.out; omega) HA.out.1 HA.out.2 ⟨by decide, by decide⟩ ⟨by decide, by decide⟩).mono ?_
      rintro x w6 ⟨rfl, fA', hl', ht, hf⟩
      obtain ⟨s1, s2, s3⟩ := stepB HBB.out HBB.out.size HGA.out ht hf
      have HLB' := Lib.hid (HLB.out.keep (w' := w6) ht.size fun b hb => ht.block b (HLB.out.lt hb) (fun h => HDI.out b h hb))
      have HDI' := Lib.hid (show ∀ b, fA' b → ¬ fB b from fun b h1 h2 => (hf b h1).elim (fun h => HDI.out b h h2) (fun h => by have := HLB.out.lt h2; omega))
      have HLA' := Lib.hid hl'
      have HGA' := Lib.hid s2
      have HBB' := Lib.hid s1
      clear hl' ht hf s1 s2 s3 HBB HGA HLA HLB HDI
      have HLA := HLA'
      have HGA := HGA'
      have HBB := HBB'
      have HLB := HLB'
      have HDI := HDI'
      clear HLA' HGA' HBB' HLB' HDI'
      obtain ⟨fA, hfe⟩ : ∃ f, f = fA' := ⟨_, rfl⟩
      rw [← hfe] at HLA HGA HDI
      clear hfe
      go_wp2_with fail
      refine (texts_live 7 0 ⟨#[]⟩ HLB.out (by have := HI.out; omega) HA.out.1 HA.out.2 ⟨by decide, by decide⟩ ⟨by decide, by decide⟩).mono ?_
      rintro x w7 ⟨rfl, fB', hl', ht, hf⟩
      obtain ⟨s1, s2, s3⟩ := stepB HBB.out HBB.out.size HGB.out ht hf
      have HLA' := Lib.hid (HLA.out.keep (w' := w7) ht.size fun b hb => ht.block b (HLA.out.lt hb) (fun h => HDI.out b hb h))
      have HDI' := Lib.hid (show ∀ b, fA b → ¬ fB' b from fun b h1 h2 => (hf b h2).elim (fun h => HDI.out b h1 h) (fun h => by have := HLA.out.lt h1; omega))
      have HLB' := Lib.hid hl'
      have HGB' := Lib.hid s2
      have HBB' := Lib.hid s1
      clear hl' ht hf s1 s2 s3 HBB HGB HLB HLA HDI
      have HLB := HLB'
      have HGB := HGB'
      have HBB := HBB'
      have HLA := HLA'
      have HDI := HDI'
      clear HLB' HGB' HBB' HLA' HDI'
      obtain ⟨fB, hfe⟩ : ∃ f, f = fB' := ⟨_, rfl⟩
      rw [← hfe] at HLB HGB HDI
      clear hfe
      go_wp2_with fail
      refine (texts_live 8 0 ⟨#[]⟩ HLB.out (by have := HI.out; omega) HA.out.1 HA.out.2 ⟨by decide, by decide⟩ ⟨by decide, by decide⟩).mono ?_
      rintro x w8 ⟨rfl, fB', hl', ht, hf⟩
      obtain ⟨s1, s2, s3⟩ := stepB HBB.out HBB.out.size HGB.out ht hf
      have HLA' := Lib.hid (HLA.out.keep (w' := w8) ht.size fun b hb => ht.block b (HLA.out.lt hb) (fun h => HDI.out b hb h))
      have HDI' := Lib.hid (show ∀ b, fA b → ¬ fB' b from fun b h1 h2 => (hf b h2).elim (fun h => HDI.out b h1 h) (fun h => by have := HLA.out.lt h1; omega))
      have HLB' := Lib.hid hl'
      have HGB' := Lib.hid s2
      have HBB' := Lib.hid s1
      clear hl' ht hf s1 s2 s3 HBB HGB HLB HLA HDI
      have HLB := HLB'
      have HGB := HGB'
      have HBB := HBB'
      have HLA := HLA'
      have HDI := HDI'
      clear HLB' HGB' HBB' HLA' HDI'
      obtain ⟨fB, hfe⟩ : ∃ f, f = fB' := ⟨_, rfl⟩
      rw [← hfe] at HLB HGB HDI
      clear hfe
      go_wp2
      go_ret
      exact ⟨rfl, HBB.out⟩
theorem other_calls (most : Int) (os : List OpV) (v : Value) (w : World) (hv : OpsIn w v os fun _ => True) (hl : os.length ≤ 2000000) (hos : ∀ x ∈ os, OpVOk x) :
    Calls Try.prog 7 #[.int .i64 most, v] w fun r w' => r = .returned (.bool true) ∧ Below w.heap.size w w' := by
  by_cases ha : 0 ≤ most ∧ most ≤ 4096
  · exact other_1 most os v w hv hl hos ha
  · exact other_0 most os v w (by omega)
end Go.Proofs.Ytfkdmbiejledoaa
