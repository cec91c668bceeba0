/-
  the document's own UnHex.
-/
import Derived.Test.YtaghjiffmondjaaB31
set_option linter.unusedVariables false
set_option linter.unusedSimpArgs false
namespace Go.Proofs.Ytaghjiffmondjaa
open Go.RowKit


def pairC (a b : UInt8) : UInt8 := UInt8.ofNat (16 * (tb SMALL a - 1) + (tb SMALL b - 1))
def pairsL : List UInt8 → List UInt8
  | a :: b :: l => pairC a b :: pairsL l
  | _ => []
def rUnHex (s : ByteArray) : ByteArray × Int := if hex (mk (pairsL s.data.toList)) = s then (mk (pairsL s.data.toList), 0) else (⟨#[]⟩, 41)
theorem pairsL_hex (l : List UInt8) : pairsL (hexL l) = l := by
  unfold hexL
  induction l with
  | nil => rfl
  | cons c l ih =>
    have hc := c.toNat_lt
    rw [List.flatMap_cons]
    show pairsL (dg SMALL (c.toNat / 16) :: dg SMALL (c.toNat % 16) :: l.flatMap hexC) = _
    rw [pairsL, ih]
    unfold pairC
    rw [tb_small _ (by omega), tb_small _ (by omega), u8_of (a := c) (by omega)]
/-- read back by guessing, written again: the same answers -/
theorem guess_same (enc dec : ByteArray → ByteArray) (u : ByteArray → ByteArray × Int) (c : Int) (h1 : ∀ t, dec (enc t) = t) (h2 : ∀ t, u (enc t) = (t, 0)) (h3 : ∀ s, (u s).2 = 0 → enc (u s).1 = s) (h4 : ∀ s, (u s).2 ≠ 0 → u s = (⟨#[]⟩, c)) (s : ByteArray) :
    (if enc (dec s) = s then (dec s, (0 : Int)) else (⟨#[]⟩, c)) = u s := by
  by_cases h : (u s).2 = 0
  · have e := h3 s h
    have : dec s = (u s).1 := by rw [← e, h1, e]
    rw [this, if_pos e]
    exact Prod.ext rfl h.symm
  · rw [h4 s h, if_neg]
    intro e
    apply h
    rw [← e, h2]
theorem rUnHex_eq (s : ByteArray) : rUnHex s = unHex s := by
  refine guess_same hex (fun s => mk (pairsL s.data.toList)) unHex 41 (fun t => ?_) unHex_hex hex_unHex (fun s h => ?_) s
  · show mk (pairsL (hex t).data.toList) = t
    rw [show (hex t).data.toList = hexL t.data.toList by simp [hex], pairsL_hex, mk_data]
  · unfold unHex at h ⊢
    split
    · rename_i h2; rw [if_pos h2] at h; exact absurd rfl h
    · rfl
theorem pair_val (a b : UInt8) : ((16 * ((tb SMALL a - 1 : Nat) : Int) + ((tb SMALL b - 1 : Nat) : Int)) : Int) = ((pairC a b).toNat : Int) := by
  have h1 := tb_le SMALL a
  have h2 := tb_le SMALL b
  rw [small_size] at h1 h2
  unfold pairC
  rw [UInt8.toNat_ofNat', Nat.mod_eq_of_lt (by omega)]; simp
theorem pairs_at (s : ByteArray) (i : Nat) (h : i + 1 < s.size) : pairsL (s.data.toList.drop i) = pairC s[i] s[i + 1] :: pairsL (s.data.toList.drop (i + 2)) := by
  rw [drop_at s i (by omega), drop_at s (i + 1) h, pairsL]
theorem pairs_end (s : ByteArray) (i : Nat) (h : ¬ i + 1 < s.size) : pairsL (s.data.toList.drop i) = [] := by
  by_cases h2 : i < s.size
  · rw [drop_at s i h2, List.drop_eq_nil_of_le (by simp; omega)]; rfl
  · rw [List.drop_eq_nil_of_le (by simp; omega)]; rfl

set_option maxHeartbeats 1000000 in
set_option maxRecDepth 100000 in
theorem rUnHex_calls (s : ByteArray) (hs : s.size ≤ 900000000) (w : World) :
    Calls Try.prog 29 #[.string s] w fun e w' => e = .returned (.tuple #[.string (unHex s).1, .int .i64 (unHex s).2]) ∧ Below w.heap.size w w' := by
  rw [← rUnHex_eq]
  obtain ⟨i0, hi, hz0, hz1, hz2⟩ := info_parts info5
  go_enter Try.func29, Try.ntmps29
  go_wp2
  go_loopw [4, 5] (fun ov iv wr => ∃ (i : Nat) (xs : List UInt8), iv = .int .i64 i ∧ i ≤ s.size + 1 ∧ Hid (xs.length ≤ i ∧ pairsL s.data.toList = xs ++ pairsL (s.data.toList.drop i)) ∧ Hid (wr.ownsRow w.heap.size 5 1 ov xs.length (xs.map bv)) ∧ Hid (Below w.heap.size w wr)) (fun _ iv _ => s.size + 2 - (intOf iv).toNat)
  case atStart => exact ⟨0, [], rfl, by omega, Lib.hid ⟨by simp, by simp⟩, Lib.hid (World.ownsRow_nil _ _ _ _), Lib.hid (Below.refl _ _)⟩
  case round =>
    obtain ⟨i, xs, rfl, hi', HL, HO, HB⟩ := hrel
    by_cases hlt : i + 1 < s.size
    · have hlt0 : i < s.size := by omega
      have HV := Lib.hid (pair_val s[i] s[i + 1])
      have HN := Lib.hid (show (xs ++ [pairC s[i] s[i + 1]]).length ≤ i + 2 ∧ pairsL s.data.toList = (xs ++ [pairC s[i] s[i + 1]]) ++ pairsL (s.data.toList.drop (i + 2)) by
        obtain ⟨h1, h2⟩ := HL.out
        exact ⟨by simp; omega, by rw [h2, pairs_at s i hlt]; simp⟩)
      have d1 : tb SMALL s[i] - 1 < 16 := by have := tb_le SMALL s[i]; rw [small_size] at this; omega
      have d2 : tb SMALL s[i + 1] - 1 < 16 := by have := tb_le SMALL s[i + 1]; rw [small_size] at this; omega
      obtain ⟨y, hy⟩ : ∃ y, y = tb SMALL s[i] - 1 := ⟨_, rfl⟩
      obtain ⟨z, hz⟩ : ∃ z, z = tb SMALL s[i + 1] - 1 := ⟨_, rfl⟩
      rw [← hy] at d1 HV
      rw [← hz] at d2 HV
      have HY := Lib.hid hy
      have HZ := Lib.hid hz
      clear hy hz
      go_wp2
      refine wp_region_seq (fun _ => True) [(0, false), (1, false), (2, false), (3, false), (6, false), (7, false), (8, false), (9, false), (4, true), (5, false), (10, true), (11, false), (12, false), (13, true), (14, true), (15, true)] (by kernel_rfl) (by kernel_rfl) (fun _ _ d _ _ h => by cases d <;> exact h) trivial ?_
      repeat (refine seqH_held ?_ (by rfl) (by rfl) (fun w' s1 => ?_) ?_; rotate_left; focus (go_simp; (try go_bits); exact rfl))
      refine seqH_actS (by rfl) (by rfl) (fun K hK => ?_)
      go_wp2_with fail
      refine (rvalue_calls SMALL s[i] _ rfl (by decide) _).mono ?_
      rintro e w1 ⟨rfl, rfl⟩
      rw [← HY.out]
      refine hK _ _ trivial ?_
      clear hK
      repeat (refine seqH_held ?_ (by rfl) (by rfl) (fun w' s1 => ?_) ?_; rotate_left; focus (go_simp; (try go_bits); exact rfl))
      refine seqH_actS (by rfl) (by rfl) (fun K hK => ?_)
      go_wp2_with fail
      refine (rvalue_calls SMALL s[i + 1] _ rfl (by decide) _).mono ?_
      rintro e w1 ⟨rfl, rfl⟩
      rw [← HZ.out]
      refine hK _ _ trivial ?_
      clear hK
      repeat (refine seqH_held ?_ (by rfl) (by rfl) (fun w' s1 => ?_) ?_; rotate_left; focus (go_simp; (try go_bits); exact rfl))
      refine seqH_actS (by rfl) (by rfl) (fun K hK => ?_)
      go_wp2_with fail
      rw [show Value.int IntKind.u8 (16 * (y : Int) + (z : Int)) = bv (pairC s[i] s[i + 1]) by unfold bv; rw [HV.out]]
      refine hK _ _ trivial ?_
      clear hK
      have hown : ((wr.alloc (.cells #[bv (pairC s[i] s[i + 1])] 5)).drew).ownsRow w.heap.size 5 1 u4 xs.length (xs.map bv) := (HO.out.alloc _).drew
      have hwb : ((wr.alloc (.cells #[bv (pairC s[i] s[i + 1])] 5)).drew).heap[wr.heap.size]? = some (.cells #[bv (pairC s[i] s[i + 1])] 5 (0, 0)) := heap_alloc_new _ _
      refine seqH_act (by kernel_rfl) (by rfl) (by rfl) (fun K2 hK2 => ?_)
      refine wp_append_lies _ (.tmp 15) (.tmp 28) 52 rfl w.heap.size 5 i0 (.int .u8 0) 1 1 Try.underlying52 hi hz0 hz1 hz2 rfl (by decide) u4 xs.length (xs.map bv) rfl hown ⟨wr.heap.size, 0, none⟩ 1 1 [bv (pairC s[i] s[i + 1])] rfl rfl (World.news_of_block hwb) (bv_one [_]) (by decide) (by have := HL.out.1; unfold maxLen; simp; omega) (by have := HL.out.1; simp; omega) (by have := HB.out.size; simp; omega) _ rfl ?_
      intro g cap w3 hown2 hgrow hat hltg
      refine hK2 _ _ ?_
      clear hK2
      have HO2 : Hid (w3.ownsRow w.heap.size 5 1 (.slice (some ⟨g, 0, none⟩) (xs.length + 1) cap) (xs ++ [pairC s[i] s[i + 1]]).length ((xs ++ [pairC s[i] s[i + 1]]).map bv)) := Lib.hid (by rw [List.length_append, List.map_append]; exact hown2)
      have hgr := grownBy_of_alloc hgrow
      have HB3 := Lib.hid (HB.out.grown hgr HB.out.size (fun k hk => (HO.out.lt k hk).1))
      clear hown hwb hown2 hgrow hat hltg hgr
      refine seqH_act (by kernel_rfl) (by rfl) (by rfl) (fun K3 hK3 => ?_)
      go_wp2
      refine seqH_nil ?_
      go_wp2
      exact ⟨⟨i + 2, _, by go_num, by omega, HN, HO2, HB3⟩, by simp [intOf]; omega⟩
    · have HE := Lib.hid (show mk (pairsL s.data.toList) = mk xs ∧ xs.length ≤ s.size + 1 by
        obtain ⟨h1, h2⟩ := HL.out
        exact ⟨by rw [h2, pairs_end s i hlt, List.append_nil], by omega⟩)
      have HF := Lib.hid (show rUnHex s = if hex (mk xs) = s then (mk xs, 0) else (⟨#[]⟩, 41) by unfold rUnHex; rw [HE.out.1])
      have hconv := own_string HO.out
      have hxs : (mk xs).size ≤ 1000000000 := by rw [mk_size]; have := HE.out.2; omega
      have HXS := Lib.hid hxs
      clear hxs
      go_wp2_with fail
      refine (rHex_calls (mk xs) HXS.out _).mono ?_
      rintro e w2 ⟨rfl, hb⟩
      have HB2 := Lib.hid (HB.out.trans (hb.mono HB.out.size))
      clear hb
      obtain ⟨D, hD⟩ : ∃ D, D = hex (mk xs) := ⟨_, rfl⟩
      rw [← hD]
      have HD := Lib.hid hD
      clear hD
      by_cases hDs : D = s
      · have HF2 := Lib.hid (show rUnHex s = (mk xs, 0) by rw [HF.out, if_pos (by rw [← HD.out]; exact hDs)])
        have t1 : (D.toList == s.toList) = true := by rw [hDs]; exact str_eq s
        have t2 : (D.toList != s.toList) = false := by rw [hDs]; simp
        clear hDs
        go_wp2
        go_ret2
        exact ⟨by rw [HF2.out]; rfl, HB2.out⟩
      · have HF2 := Lib.hid (show rUnHex s = (⟨#[]⟩, 41) by rw [HF.out, if_neg (by rw [← HD.out]; exact hDs)])
        have t1 := str_ne hDs
        have t2 : (D.toList != s.toList) = true := by simp [bne, t1]
        clear hDs
        go_wp2
        go_ret2
        exact ⟨by rw [HF2.out]; rfl, HB2.out⟩
end Go.Proofs.Ytaghjiffmondjaa
