/-
  the document's own Unescape.
-/
import Derived.Test.YtaghjiffmondjaaB33
set_option linter.unusedVariables false
set_option linter.unusedSimpArgs false
namespace Go.Proofs.Ytaghjiffmondjaa
open Go.RowKit


def pairB (a b : UInt8) : UInt8 := UInt8.ofNat ((tb BIG a - 1) * 16 + (tb BIG b - 1))
def rdecL : List UInt8 → List UInt8
  | [] => []
  | [x] => [x]
  | [x, y] => [x, y]
  | x :: y :: z :: l => if x = 37 then pairB y z :: rdecL l else x :: rdecL (y :: z :: l)
theorem rdecL_plain (x : UInt8) (l : List UInt8) (h : ¬ x = 37) : rdecL (x :: l) = x :: rdecL l := by
  match l with
  | [] => rfl
  | [y] => rfl
  | y :: z :: l => simp only [rdecL, if_neg h]
theorem rdecL_short (x : UInt8) (l : List UInt8) (hl : l.length < 2) : rdecL (x :: l) = x :: rdecL l := by
  match l, hl with
  | [], _ => rfl
  | [y], _ => rfl
theorem rdecL_escL (l : List UInt8) : rdecL (escL l) = l := by
  unfold escL
  induction l with
  | nil => rfl
  | cons c l ih =>
    rw [List.flatMap_cons]
    rcases escOne_cases c with ⟨h, h1, _⟩ | ⟨y, z, h, h1, h2, h3, _⟩
    · rw [h, List.cons_append, List.nil_append, rdecL_plain _ _ h1, ih]
    · rw [h]
      simp only [List.cons_append, List.nil_append, rdecL, if_true]
      rw [ih]; unfold pairB; rw [h3]
def rPlain (s : ByteArray) : ByteArray := if s = ⟨#[37]⟩ then ⟨#[]⟩ else mk (rdecL s.data.toList)
def rUnesc (s : ByteArray) : ByteArray × Int := if escape (rPlain s) = s then (rPlain s, 0) else (⟨#[]⟩, 44)
theorem rUnesc_eq (s : ByteArray) : rUnesc s = unescape s := by
  refine guess_same escape rPlain unescape 44 (fun t => ?_) unescape_escape escape_unescape (fun s h => ?_) s
  · unfold rPlain
    by_cases h0 : t.size = 0
    · have e : escape t = ⟨#[37]⟩ := by unfold escape; rw [if_pos h0]
      rw [if_pos e, list_of_size h0]
    · have e : escape t = mk (escL t.data.toList) := by unfold escape; rw [if_neg h0]; rfl
      rw [e, if_neg, mk_list, rdecL_escL, mk_data]
      intro h2
      have := congrArg (fun b => b.data.toList) h2
      rw [mk_list] at this
      exact escL_not37 _ this
  · unfold unescape at h ⊢
    split
    · rename_i h2; rw [if_pos h2] at h; exact absurd rfl h
    · rename_i h2
      rw [if_neg h2] at h
      revert h
      split
      · intro _; rfl
      · split
        · intro h; exact absurd rfl h
        · intro _; rfl
theorem pairB_val (a b : UInt8) : (16 * ((tb BIG a - 1 : Nat) : Int) + ((tb BIG b - 1 : Nat) : Int)) = ((pairB a b).toNat : Int) := by
  have h1 := tb_le BIG a
  have h2 := tb_le BIG b
  rw [big_size] at h1 h2
  unfold pairB
  rw [UInt8.toNat_ofNat', Nat.mod_eq_of_lt (by omega)]; simp; omega
theorem rdec_pair (s : ByteArray) (i : Nat) (h : i + 2 < s.size) (hx : s[i] = 37) : rdecL (s.data.toList.drop i) = pairB s[i + 1] s[i + 2] :: rdecL (s.data.toList.drop (i + 3)) := by
  rw [drop3 s i h, rdecL, if_pos hx]
theorem rdec_one (s : ByteArray) (i : Nat) (h : i < s.size) (hx : ¬ (s[i] = 37 ∧ i + 2 < s.size)) : rdecL (s.data.toList.drop i) = s[i] :: rdecL (s.data.toList.drop (i + 1)) := by
  rw [drop_at s i h]
  by_cases h2 : s[i] = 37
  · have h3 : ¬ i + 2 < s.size := fun h3 => hx ⟨h2, h3⟩
    exact rdecL_short _ _ (by simp; omega)
  · exact rdecL_plain _ _ h2
set_option maxHeartbeats 1000000 in
set_option maxRecDepth 100000 in
theorem rUnescape_calls (s : ByteArray) (hs : s.size ≤ 40000000000000) (w : World) :
    Calls Try.prog 36 #[.string s] w fun e w' => e = .returned (.tuple #[.string (unescape s).1, .int .i64 (unescape s).2]) ∧ Below w.heap.size w w' := by
  rw [← rUnesc_eq]
  by_cases h37 : s = ⟨#[37]⟩
  · have HF := Lib.hid (show rUnesc s = (⟨#[]⟩, 0) by subst h37; rfl)
    subst h37
    go_enter Try.func36, Try.ntmps36
    go_wp2
    go_ret2
    exact ⟨by rw [HF.out]; rfl, Below.refl _ _⟩
  have HF := Lib.hid (show rUnesc s = if escape (mk (rdecL s.data.toList)) = s then (mk (rdecL s.data.toList), 0) else (⟨#[]⟩, 44) by
    unfold rUnesc rPlain; rw [if_neg h37])
  have t0 : (s.toList == [37]) = false := by have := str_ne h37; rwa [show (⟨#[37]⟩ : ByteArray).toList = [37] from toList_eq _] at this
  have HS := Lib.hid hs
  replace hs : s.size ≤ 2 ^ 63 - 3 := by omega
  clear h37
  obtain ⟨i0, hi, hz0, hz1, hz2⟩ := info_parts info5
  go_enter Try.func36, Try.ntmps36
  go_wp2
  go_loopw [4, 5] (fun ov iv wr => ∃ (i : Nat) (xs : List UInt8), iv = .int .i64 i ∧ i ≤ s.size ∧ Hid (xs.length ≤ i ∧ rdecL s.data.toList = xs ++ rdecL (s.data.toList.drop i)) ∧ Hid (wr.ownsRow w.heap.size 5 1 ov xs.length (xs.map bv)) ∧ Hid (Below w.heap.size w wr)) (fun _ iv _ => s.size - (intOf iv).toNat)
  case atStart => exact ⟨0, [], rfl, by omega, Lib.hid ⟨by simp, by simp⟩, Lib.hid (World.ownsRow_nil _ _ _ _), Lib.hid (Below.refl _ _)⟩
  case round =>
    obtain ⟨i, xs, rfl, hi', HL, HO, HB⟩ := hrel
    by_cases hlt : i < s.size
    · have HW := Lib.hid (rdec_one s i hlt)
      by_cases hx : s[i] = 37
      · have t1 : ((s[i].toNat : Int) == 37) = true := by rw [hx]; rfl
        by_cases h2 : i + 2 < s.size
        · have t2 : decide ((i : Int) + 2 < (s.size : Int)) = true := decide_eq_true (by omega)
          have hlt1 : i + 1 < s.size := by omega
          have g1 : 0 ≤ (i : Int) + 1 ∧ (i : Int) + 1 < (s.size : Int) := by omega
          have g2 : 0 ≤ (i : Int) + 2 ∧ (i : Int) + 2 < (s.size : Int) := by omega
          have HV := Lib.hid (pairB_val s[i + 1] s[i + 2])
          have HN := Lib.hid (show (xs ++ [pairB s[i + 1] s[i + 2]]).length ≤ i + 3 ∧ rdecL s.data.toList = (xs ++ [pairB s[i + 1] s[i + 2]]) ++ rdecL (s.data.toList.drop (i + 3)) by
            obtain ⟨q1, q2⟩ := HL.out
            exact ⟨by simp; omega, by rw [q2, rdec_pair s i h2 hx]; simp⟩)
          have d1 : tb BIG s[i + 1] - 1 < 16 := by have := tb_le BIG s[i + 1]; rw [big_size] at this; omega
          have d2 : tb BIG s[i + 2] - 1 < 16 := by have := tb_le BIG s[i + 2]; rw [big_size] at this; omega
          obtain ⟨y, hy⟩ : ∃ y, y = tb BIG s[i + 1] - 1 := ⟨_, rfl⟩
          obtain ⟨z, hz⟩ : ∃ z, z = tb BIG s[i + 2] - 1 := ⟨_, rfl⟩
          rw [← hy] at d1 HV
          rw [← hz] at d2 HV
          have HY := Lib.hid hy
          have HZ := Lib.hid hz
          clear hy hz hx
          go_wp2
          refine wp_region_seq (fun _ => True) [(0, false), (1, false), (2, false), (3, false), (4, false), (7, false), (8, false), (9, false), (10, false), (5, true), (6, false), (11, true), (12, false), (13, false), (14, true), (15, true), (16, true)] (by kernel_rfl) (by kernel_rfl) (fun _ _ d _ _ h => by cases d <;> exact h) trivial ?_
          repeat (refine seqH_held ?_ (by rfl) (by rfl) (fun w' s1 => ?_) ?_; rotate_left; focus (go_simp; (try go_bits); exact rfl))
          refine seqH_actS (by rfl) (by rfl) (fun K hK => ?_)
          go_wp2_with fail
          refine (rvalue_calls BIG s[i + 1] _ rfl (by decide) _).mono ?_
          rintro e w1 ⟨rfl, rfl⟩
          rw [← HY.out]
          refine hK _ _ trivial ?_
          clear hK
          repeat (refine seqH_held ?_ (by rfl) (by rfl) (fun w' s1 => ?_) ?_; rotate_left; focus (go_simp; (try go_bits); exact rfl))
          refine seqH_actS (by rfl) (by rfl) (fun K hK => ?_)
          go_wp2_with fail
          refine (rvalue_calls BIG s[i + 2] _ rfl (by decide) _).mono ?_
          rintro e w1 ⟨rfl, rfl⟩
          rw [← HZ.out]
          refine hK _ _ trivial ?_
          clear hK
          repeat (refine seqH_held ?_ (by rfl) (by rfl) (fun w' s1 => ?_) ?_; rotate_left; focus (go_simp; (try go_bits); exact rfl))
          refine seqH_actS (by rfl) (by rfl) (fun K hK => ?_)
          go_wp2_with fail
          rw [show Value.int IntKind.u8 (16 * (y : Int) + (z : Int)) = bv (pairB s[i + 1] s[i + 2]) by unfold bv; rw [HV.out]]
          refine hK _ _ trivial ?_
          clear hK
          have hown : ((wr.alloc (.cells #[bv (pairB s[i + 1] s[i + 2])] 5)).drew).ownsRow w.heap.size 5 1 u4 xs.length (xs.map bv) := (HO.out.alloc _).drew
          have hwb : ((wr.alloc (.cells #[bv (pairB s[i + 1] s[i + 2])] 5)).drew).heap[wr.heap.size]? = some (.cells #[bv (pairB s[i + 1] s[i + 2])] 5 (0, 0)) := heap_alloc_new _ _
          refine seqH_act (by kernel_rfl) (by rfl) (by rfl) (fun K2 hK2 => ?_)
          refine wp_append_lies _ (.tmp 25) (.tmp 39) 52 rfl w.heap.size 5 i0 (.int .u8 0) 1 1 Try.underlying52 hi hz0 hz1 hz2 rfl (by decide) u4 xs.length (xs.map bv) rfl hown ⟨wr.heap.size, 0, none⟩ 1 1 [bv (pairB s[i + 1] s[i + 2])] rfl rfl (World.news_of_block hwb) (bv_one [_]) (by decide) (by have := HL.out.1; have := HS.out; unfold maxLen; simp; omega) (by have := HL.out.1; have := HS.out; simp; omega) (by have := HB.out.size; simp; omega) _ rfl ?_
          intro g cap w3 hown2 hgrow hat hltg
          refine hK2 _ _ ?_
          clear hK2
          have HO2 : Hid (w3.ownsRow w.heap.size 5 1 (.slice (some ⟨g, 0, none⟩) (xs.length + 1) cap) (xs ++ [pairB s[i + 1] s[i + 2]]).length ((xs ++ [pairB s[i + 1] s[i + 2]]).map bv)) := Lib.hid (by rw [List.length_append, List.map_append]; exact hown2)
          have hgr := grownBy_of_alloc hgrow
          have HB3 := Lib.hid (HB.out.grown hgr HB.out.size (fun k hk => (HO.out.lt k hk).1))
          clear hown hwb hown2 hgrow hat hltg hgr
          refine seqH_act (by kernel_rfl) (by rfl) (by rfl) (fun K3 hK3 => ?_)
          go_wp2
          refine seqH_nil ?_
          go_wp2
          exact ⟨⟨i + 3, _, by go_num, by omega, HN, HO2, HB3⟩, by simp [intOf]; omega⟩
        · have t2 : decide ((i : Int) + 2 < (s.size : Int)) = false := decide_eq_false (by omega)
          have HN := Lib.hid (show (xs ++ [s[i]]).length ≤ i + 1 ∧ rdecL s.data.toList = (xs ++ [s[i]]) ++ rdecL (s.data.toList.drop (i + 1)) by
            obtain ⟨q1, q2⟩ := HL.out
            exact ⟨by simp; omega, by rw [q2, HW.out (fun h => h2 h.2)]; simp⟩)
          clear hx h2
          go_wp2_with (at_builtin; refine wpList_append_lies _ rfl (.tmp 43) (.tmp 47) 52 rfl w.heap.size 5 i0 (.int .u8 0) 1 1 Try.underlying52 hi hz0 hz1 hz2 rfl (by decide) _ _ _ rfl (HO.out.alloc _) ⟨wr.heap.size, 0, none⟩ 1 1 [Value.int IntKind.u8 (s[i].toNat : Int)] rfl rfl (World.news_of_block (heap_alloc_new _ _)) (bv_one [s[i]]) (by decide) (by have := HL.out.1; have := HS.out; unfold maxLen; omega) (by have := HL.out.1; have := HS.out; omega) (by have := HB.out.size; simp; omega) _ rfl ?_)
          intro g cap w2 hown2 hgrow hat hltg
          have HO2 : Hid (w2.ownsRow w.heap.size 5 1 (.slice (some ⟨g, 0, none⟩) (xs.length + 1) cap) (xs ++ [s[i]]).length ((xs ++ [s[i]]).map bv)) := Lib.hid (by rw [List.length_append, List.map_append]; exact hown2)
          have HB2 := Lib.hid ((HB.out.alloc HB.out.size _).grown hgrow (by have := HB.out.size; simp; omega) (fun k hk => (HO.out.lt k hk).1))
          clear hown2 hgrow hat hltg
          go_wp2
          exact ⟨⟨i + 1, _, by go_num, by omega, HN, HO2, HB2⟩, by simp [intOf]; omega⟩
      · have t1 : ((s[i].toNat : Int) == 37) = false := by
          rw [beq_eq_false_iff_ne]; intro h; exact hx (UInt8.toNat_inj.1 (by have : (37 : UInt8).toNat = 37 := rfl; omega))
        have HN := Lib.hid (show (xs ++ [s[i]]).length ≤ i + 1 ∧ rdecL s.data.toList = (xs ++ [s[i]]) ++ rdecL (s.data.toList.drop (i + 1)) by
          obtain ⟨q1, q2⟩ := HL.out
          exact ⟨by simp; omega, by rw [q2, HW.out (fun h => hx h.1)]; simp⟩)
        clear hx
        go_wp2_with (at_builtin; refine wpList_append_lies _ rfl (.tmp 43) (.tmp 47) 52 rfl w.heap.size 5 i0 (.int .u8 0) 1 1 Try.underlying52 hi hz0 hz1 hz2 rfl (by decide) _ _ _ rfl (HO.out.alloc _) ⟨wr.heap.size, 0, none⟩ 1 1 [Value.int IntKind.u8 (s[i].toNat : Int)] rfl rfl (World.news_of_block (heap_alloc_new _ _)) (bv_one [s[i]]) (by decide) (by have := HL.out.1; have := HS.out; unfold maxLen; omega) (by have := HL.out.1; have := HS.out; omega) (by have := HB.out.size; simp; omega) _ rfl ?_)
        intro g cap w2 hown2 hgrow hat hltg
        have HO2 : Hid (w2.ownsRow w.heap.size 5 1 (.slice (some ⟨g, 0, none⟩) (xs.length + 1) cap) (xs ++ [s[i]]).length ((xs ++ [s[i]]).map bv)) := Lib.hid (by rw [List.length_append, List.map_append]; exact hown2)
        have HB2 := Lib.hid ((HB.out.alloc HB.out.size _).grown hgrow (by have := HB.out.size; simp; omega) (fun k hk => (HO.out.lt k hk).1))
        clear hown2 hgrow hat hltg
        go_wp2
        exact ⟨⟨i + 1, _, by go_num, by omega, HN, HO2, HB2⟩, by simp [intOf]; omega⟩
    · obtain rfl : i = s.size := by omega
      have HE := Lib.hid (show rdecL s.data.toList = xs ∧ xs.length ≤ s.size by
        obtain ⟨h1, h2⟩ := HL.out
        exact ⟨by rw [h2, List.drop_eq_nil_of_le (by simp)]; simp [rdecL], h1⟩)
      have HR := Lib.hid (show rUnesc s = if escape (mk xs) = s then (mk xs, 0) else (⟨#[]⟩, 44) by rw [HF.out, HE.out.1])
      have hconv := own_string HO.out
      go_wp2_with fail
      refine (rEscape_calls (mk xs) (by rw [mk_size]; have := HE.out.2; have := HS.out; omega) _).mono ?_
      rintro e w2 ⟨rfl, hb⟩
      have HB2 := Lib.hid (HB.out.trans (hb.mono HB.out.size))
      clear hb
      obtain ⟨D, hD⟩ : ∃ D, D = escape (mk xs) := ⟨_, rfl⟩
      rw [← hD]
      have HD := Lib.hid hD
      clear hD
      by_cases hDs : D = s
      · have HF2 := Lib.hid (show rUnesc s = (mk xs, 0) by rw [HR.out, if_pos (by rw [← HD.out]; exact hDs)])
        have t3 : (D.toList == s.toList) = true := by rw [hDs]; exact str_eq s
        have t4 : (D.toList != s.toList) = false := by rw [hDs]; simp
        clear hDs
        go_wp2
        go_ret2
        exact ⟨by rw [HF2.out]; rfl, HB2.out⟩
      · have HF2 := Lib.hid (show rUnesc s = (⟨#[]⟩, 44) by rw [HR.out, if_neg (by rw [← HD.out]; exact hDs)])
        have t3 := str_ne hDs
        have t4 : (D.toList != s.toList) = true := by simp [bne, t3]
        clear hDs
        go_wp2
        go_ret2
        exact ⟨by rw [HF2.out]; rfl, HB2.out⟩
end Go.Proofs.Ytaghjiffmondjaa
