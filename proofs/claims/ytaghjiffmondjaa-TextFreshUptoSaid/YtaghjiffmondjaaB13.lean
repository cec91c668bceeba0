/-
  text.Words: what it answers of every text.
-/
import Derived.Test.YtaghjiffmondjaaB12
set_option linter.unusedVariables false
set_option linter.unusedSimpArgs false
namespace Go.Proofs.Ytaghjiffmondjaa
open Go.RowKit

def wordsGo : List ByteArray → Option (List ByteArray)
  | [] => some []
  | p :: ps => if (unescape p).2 = 0 then (wordsGo ps).map ((unescape p).1 :: ·) else none
def wordsOf (s : ByteArray) : List ByteArray × Int :=
  if s.size = 0 then ([], 0) else match wordsGo ((partL 32 s.data.toList).map mk) with
    | some l => (l, 0)
    | none => ([], 44)
theorem unescape_code (p : ByteArray) : (unescape p).2 = 0 ∨ (unescape p).2 = 44 := by
  unfold unescape
  split
  · exact .inl rfl
  · split
    · exact .inr rfl
    · split
      · exact .inl rfl
      · exact .inr rfl
theorem partL_mem_len (c : UInt8) : ∀ (l p : List UInt8), p ∈ partL c l → p.length ≤ l.length
  | [], p, h => by simp [partL] at h; simp [h]
  | x :: l, p, h => by
    have ih := partL_mem_len c l
    have hn := partL_ne c l
    unfold partL at h
    split at h
    · rcases List.mem_cons.1 h with rfl | h
      · simp
      · have := ih p h; simp; omega
    · cases hp : partL c l with
      | nil => exact absurd hp hn
      | cons q qs =>
        rw [hp] at h ih
        rcases List.mem_cons.1 h with rfl | h
        · have := ih q (by simp); simp; omega
        · have := ih p (by simp [h]); simp; omega

theorem strs_base {w : World} {B B' : Nat} {v : Value} {xs : List ByteArray} (h : StrsOwn B w v xs) (hb : B' ≤ B) : StrsOwn B' w v xs := by
  refine ⟨h.1, ?_⟩
  rcases h.2 with hn | ⟨g, cap, cur, hv, hB, rest⟩
  · exact .inl hn
  · exact .inr ⟨g, cap, cur, hv, Nat.le_trans hb hB, rest⟩
set_option maxHeartbeats 1000000 in
set_option maxRecDepth 100000 in
theorem words_calls (s : ByteArray) (hs : s.size ≤ 8000000000000) (w : World) :
    Calls Try.prog 31 #[.string s] w fun e w' => ∃ v, e = .returned (.tuple #[v, .int .i64 (wordsOf s).2]) ∧ StrsOwn w.heap.size w' v (wordsOf s).1 ∧ Below w.heap.size w w' := by
  by_cases h0 : s.size = 0
  · have h1 : s.toList = [] := toList_of_size h0
    have HF := Lib.hid (show wordsOf s = ([], 0) by unfold wordsOf; rw [if_pos h0])
    clear h0
    go_enter Try.func31, Try.ntmps31
    go_wp2
    go_ret2
    exact ⟨.slice none 0 0, by rw [HF.out]; rfl, by rw [HF.out]; exact World.ownsRow_nil _ _ _ _, Below.refl _ _⟩
  · have h1 : s.toList.isEmpty = false := isEmpty_of_size h0
    have HF := Lib.hid (show wordsOf s = match wordsGo ((partL 32 s.data.toList).map mk) with
      | some l => (l, 0)
      | none => ([], 44) by unfold wordsOf; rw [if_neg h0])
    have HS := Lib.hid hs
    obtain ⟨i0, hi, hz0, hz1, hz2⟩ := info_parts info9
    clear h0 hs
    go_enter Try.func31, Try.ntmps31
    go_wp2_with fail
    refine (parted_calls s HS.out 32 w).mono ?_
    rintro e w1 ⟨v0, rfl, ho, hb⟩
    obtain ⟨ps, hps⟩ : ∃ ps, ps = (partL 32 s.data.toList).map mk := ⟨_, rfl⟩
    rw [← hps] at HF ho
    have hlen : ps.length ≤ s.size + 1 := by
      have := partL_len 32 s.data.toList
      have h2 : s.data.toList.length = s.size := by simp
      rw [hps, List.length_map]; omega
    have hpos : 0 < ps.length := by
      rw [hps, List.length_map]; exact List.length_pos_iff.2 (partL_ne _ _)
    have hmem : ∀ p ∈ ps, p.size ≤ s.size := by
      intro p hp
      rw [hps] at hp
      obtain ⟨l, hl, rfl⟩ := List.mem_map.1 hp
      have := partL_mem_len 32 s.data.toList l hl
      have h2 : s.data.toList.length = s.size := by simp
      show l.toArray.size ≤ _
      simp; omega
    obtain ⟨g, cap, rfl, hg1, hg2⟩ := World.ownsRow.form ho hpos
    have hcell := World.ownsRow.cells (g := g) ho rfl
    have HC := Lib.hid (show ∀ i (h : i < ps.length), w1.cell? ⟨g, i, none⟩ = some (.string ps[i]) by
      intro i h
      have := hcell i (.string ps[i]) (by simp [h])
      rw [Addr.add_lit] at this
      simpa using this)
    have HM := Lib.hid hmem
    have HLN := Lib.hid hlen
    have HB := Lib.hid hb
    have hn63 : ps.length ≤ 2 ^ 63 - 1 := by have := HS.out; omega
    clear hps hlen hmem ho hb hcell
    go_wp2
    go_loopw [4, 14] (fun ov iv wr => ∃ (i : Nat) (zs : List ByteArray), i ≤ ps.length ∧ iv = .int .i64 i ∧ Hid (zs.length ≤ i ∧ wordsGo ps = (wordsGo (ps.drop i)).map (zs ++ ·)) ∧ Hid (StrsOwn w1.heap.size wr ov zs) ∧ Hid (Below w1.heap.size w1 wr)) (fun _ iv _ => ps.length - (intOf iv).toNat)
    case atStart => exact ⟨0, [], by omega, rfl, Lib.hid ⟨by simp, by simp⟩, Lib.hid (World.ownsRow_nil _ _ _ _), Lib.hid (Below.refl _ _)⟩
    case round =>
      obtain ⟨i, zs, hi', rfl, HL, HO, HBr⟩ := hrel
      by_cases hlt : i < ps.length
      · have c1 : wr.cell? ⟨g, i, none⟩ = some (.string ps[i]) := by rw [HBr.out.cell hg2]; exact HC.out i hlt
        have hsz := HM.out ps[i] (List.getElem_mem hlt)
        have hd : ps.drop i = ps[i] :: ps.drop (i + 1) := List.drop_eq_getElem_cons hlt
        obtain ⟨p, hp⟩ : ∃ p, p = ps[i] := ⟨_, rfl⟩
        rw [← hp] at c1 hsz hd
        have HD := Lib.hid hd
        have HSZ := Lib.hid (show p.size ≤ 40000000000000 by have := HS.out; omega)
        clear hp hd hsz
        go_wp2_with fail
        refine (unescape_calls p HSZ.out wr).mono ?_
        rintro e w3 ⟨rfl, hb3⟩
        have HB3 := Lib.hid (HBr.out.trans (hb3.mono HBr.out.size))
        have HO3 := Lib.hid (show StrsOwn w1.heap.size w3 u4 zs from ownsRow_keep2 HO.out fun k hk => hb3.block k hk)
        have HG3 := Lib.hid hb3.size
        clear hb3 c1
        obtain ⟨r, hr⟩ : ∃ r, r = unescape p := ⟨_, rfl⟩
        have hcode := unescape_code p
        rw [← hr] at hcode ⊢
        have HR := Lib.hid hr
        clear hr
        obtain ⟨r1, r2⟩ := r
        simp only at hcode ⊢
        rcases hcode with h2 | h2
        · have HX := Lib.hid h2
          have t1 : (r2 != 0) = false := by simp [h2]
          have HL2 := Lib.hid (show (zs ++ [r1]).length ≤ i + 1 ∧ wordsGo ps = (wordsGo (ps.drop (i + 1))).map ((zs ++ [r1]) ++ ·) by
            obtain ⟨q1, q2⟩ := HL.out
            refine ⟨by simp; omega, ?_⟩
            rw [q2, HD.out, wordsGo, ← HR.out, if_pos h2, Option.map_map]
            congr 1
            funext l; simp)
          clear h2
          go_wp2_with (at_builtin; refine wpList_append_lies _ rfl (.tmp 26) (.tmp 28) 23 rfl w1.heap.size 9 i0 (.string ⟨#[]⟩) 1 16 Try.underlying23 hi hz0 hz1 hz2 rfl (by decide) _ _ _ rfl (HO3.out.alloc _) ⟨w3.heap.size, 0, none⟩ 1 1 [Value.string r1] rfl rfl (World.news_of_block (heap_alloc_new _ _)) (str_one [_]) (by decide) (by have := HL.out.1; have := HS.out; have := HLN.out; unfold maxLen; omega) (by have := HL.out.1; have := HS.out; have := HLN.out; omega) (by have := HBr.out.size; have := HG3.out; simp; omega) _ rfl ?_)
          intro g2 cap2 w4 hown2 hgrow hat hltg
          have HO4 := Lib.hid (strs_snoc hown2)
          have HB4 := Lib.hid ((HB3.out.alloc HB3.out.size _).grown hgrow (by have := HB3.out.size; simp; omega) (fun k hk => (HO3.out.lt k hk).1))
          clear hown2 hgrow hat hltg
          go_wp2
          exact ⟨⟨i + 1, _, by omega, by go_num, HL2, HO4, HB4⟩, by simp [intOf]; omega⟩
        · have HX := Lib.hid h2
          have t1 : (r2 != 0) = true := by simp [h2]
          have HF2 := Lib.hid (show wordsOf s = ([], r2) by
            rw [HF.out, HL.out.2, HD.out, wordsGo, ← HR.out, if_neg (by simp [h2])]; simp [h2])
          clear h2
          go_wp2
          go_ret2
          exact ⟨.slice none 0 0, by rw [HF2.out]; rfl, by rw [HF2.out]; exact World.ownsRow_nil _ _ _ _, HB.out.trans (HB3.out.mono HB.out.size)⟩
      · obtain rfl : i = ps.length := by omega
        have HF2 := Lib.hid (show wordsOf s = (zs, 0) by
          rw [HF.out, HL.out.2, List.drop_length]; simp [wordsGo])
        go_wp2
        go_ret2
        refine ⟨_, by rw [HF2.out]; rfl, ?_, HB.out.trans (HBr.out.mono HB.out.size)⟩
        rw [HF2.out]
        exact strs_base HO.out HB.out.size
end Go.Proofs.Ytaghjiffmondjaa
