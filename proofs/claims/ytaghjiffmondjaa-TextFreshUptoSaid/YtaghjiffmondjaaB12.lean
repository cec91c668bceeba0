/-
  text.Lines, text.Words, text.Unescape: what they answer.
-/
import Derived.Test.YtaghjiffmondjaaB11
set_option linter.unusedVariables false
set_option linter.unusedSimpArgs false
namespace Go.Proofs.Ytaghjiffmondjaa
open Go.RowKit

def linesOf (s : ByteArray) : List ByteArray × Int :=
  if s.size = 0 then ([], 0) else if s.data.toList.getLast? = some 10 then ((partL 10 s.data.toList.dropLast).map mk, 0) else ([], 43)

theorem drop_last_ext (s : ByteArray) : (s.extract 0 (s.size - 1)).data.toList = s.data.toList.dropLast := by
  rw [ext_list, List.drop_zero, List.dropLast_eq_take]; simp

theorem lines_calls (s : ByteArray) (hs : s.size ≤ 8000000000000) (w : World) :
    Calls Try.prog 13 #[.string s] w fun e w' => ∃ v, e = .returned (.tuple #[v, .int .i64 (linesOf s).2]) ∧ StrsOwn w.heap.size w' v (linesOf s).1 ∧ Below w.heap.size w w' := by
  by_cases h0 : s.size = 0
  · have h1 : s.toList = [] := toList_of_size h0
    have HF := Lib.hid (show linesOf s = ([], 0) by unfold linesOf; rw [if_pos h0])
    clear h0
    go_enter Try.func13, Try.ntmps13
    go_wp2
    go_ret2
    exact ⟨.slice none 0 0, by rw [HF.out]; rfl, by rw [HF.out]; exact World.ownsRow_nil _ _ _ _, Below.refl _ _⟩
  · have h1 : s.toList.isEmpty = false := isEmpty_of_size h0
    have b1 : 1 ≤ (s.size : Int) := by omega
    have b2 : s.size - 1 < s.size := by omega
    by_cases hl : s[s.size - 1] = 10
    · have HF := Lib.hid (show linesOf s = ((partL 10 (s.extract 0 (s.size - 1)).data.toList).map mk, 0) by
        unfold linesOf; rw [if_neg h0, getLast_at s b2, hl, if_pos rfl, drop_last_ext])
      have t1 : ((s[s.size - 1].toNat : Int) != 10) = false := by rw [hl]; rfl
      have HS := Lib.hid (show (s.extract 0 (s.size - 1)).size ≤ 8000000000000 by simp; omega)
      replace hs : s.size ≤ 2 ^ 63 - 1 := by omega
      clear h0 hl
      go_enter Try.func13, Try.ntmps13
      go_wp2_with fail
      refine (parted_calls (s.extract 0 (s.size - 1)) HS.out 10 w).mono ?_
      rintro e w' ⟨v, rfl, ho, hb⟩
      have HO := Lib.hid ho
      have HB := Lib.hid hb
      clear ho hb
      go_wp2
      go_ret2
      exact ⟨_, by rw [HF.out]; rfl, by rw [HF.out]; exact HO.out, HB.out⟩
    · have HF := Lib.hid (show linesOf s = ([], 43) by
        unfold linesOf; rw [if_neg h0, getLast_at s b2, if_neg (fun h => hl (Option.some.inj h))])
      have t1 : ((s[s.size - 1].toNat : Int) != 10) = true := by
        simp; intro h; exact hl (UInt8.toNat_inj.1 (by have : (10 : UInt8).toNat = 10 := rfl; omega))
      replace hs : s.size ≤ 2 ^ 63 - 1 := by omega
      clear h0 hl
      go_enter Try.func13, Try.ntmps13
      go_wp2
      go_ret2
      exact ⟨.slice none 0 0, by rw [HF.out]; rfl, by rw [HF.out]; exact World.ownsRow_nil _ _ _ _, Below.refl _ _⟩

def unescL : List UInt8 → Option (List UInt8)
  | [] => some []
  | [x] => if x = 37 then none else some [x]
  | [x, y] => if x = 37 then none else (unescL [y]).map (x :: ·)
  | x :: y :: z :: l => if x = 37 then (if tb BIG y = 0 ∨ tb BIG z = 0 then none else (unescL l).map (UInt8.ofNat ((tb BIG y - 1) * 16 + (tb BIG z - 1)) :: ·)) else (unescL (y :: z :: l)).map (x :: ·)
theorem unescL_plain (x : UInt8) (l : List UInt8) (h : ¬ x = 37) : unescL (x :: l) = (unescL l).map (x :: ·) := by
  match l with
  | [] => simp [unescL, h]
  | [y] => simp only [unescL, if_neg h]
  | y :: z :: l => simp only [unescL, if_neg h]
theorem unescL_short (x : UInt8) (l : List UInt8) (h : x = 37) (hl : l.length < 2) : unescL (x :: l) = none := by
  match l, hl with
  | [], _ => simp [unescL, h]
  | [y], _ => simp [unescL, h]

def unescape (s : ByteArray) : ByteArray × Int :=
  if s = ⟨#[37]⟩ then (⟨#[]⟩, 0) else match unescL s.data.toList with
    | none => (⟨#[]⟩, 44)
    | some t => if escape (mk t) = s then (mk t, 0) else (⟨#[]⟩, 44)

theorem u8_or_all : ∀ a : Fin 16, ∀ b : Fin 16, Go.bits BinOp.or IntKind.u8 ((a.val : Int) * 16) (b.val : Int) = (a.val : Int) * 16 + (b.val : Int) := by decide +kernel
theorem u8_or16 (d e : Nat) (hd : 1 ≤ d ∧ d ≤ 16) (he : 1 ≤ e ∧ e ≤ 16) : Go.bits BinOp.or IntKind.u8 (((d : Int) - 1) * 16) ((e : Int) - 1) = (((d - 1) * 16 + (e - 1) : Nat) : Int) := by
  have := u8_or_all ⟨d - 1, by omega⟩ ⟨e - 1, by omega⟩
  simp only at this
  rw [show (d : Int) - 1 = ((d - 1 : Nat) : Int) by omega, show (e : Int) - 1 = ((e - 1 : Nat) : Int) by omega, this]
  simp

theorem unq_val (y z : Nat) (hy : y ≤ 16) (hz : z ≤ 16) : bv (UInt8.ofNat ((y - 1) * 16 + (z - 1))) = .int .u8 (((y - 1 : Nat) : Int) * 16 + ((z - 1 : Nat) : Int)) := by
  unfold bv
  have : (UInt8.ofNat ((y - 1) * 16 + (z - 1))).toNat = (y - 1) * 16 + (z - 1) := by
    rw [UInt8.toNat_ofNat']; exact Nat.mod_eq_of_lt (by omega)
  rw [this]; simp
theorem drop3 (s : ByteArray) (i : Nat) (h : i + 2 < s.size) : s.data.toList.drop i = s[i] :: s[i + 1] :: s[i + 2] :: s.data.toList.drop (i + 3) := by
  rw [drop_at s i (by omega), drop_at s (i + 1) (by omega), drop_at s (i + 2) h]

set_option maxHeartbeats 2000000 in
set_option maxRecDepth 100000 in
theorem unescape_calls (s : ByteArray) (hs : s.size ≤ 40000000000000) (w : World) :
    Calls Try.prog 35 #[.string s] w fun e w' => e = .returned (.tuple #[.string (unescape s).1, .int .i64 (unescape s).2]) ∧ Below w.heap.size w w' := by
  by_cases h37 : s = ⟨#[37]⟩
  · have HF := Lib.hid (show unescape s = (⟨#[]⟩, 0) by unfold unescape; rw [if_pos h37])
    subst h37
    go_enter Try.func35, Try.ntmps35
    go_wp2
    go_ret2
    exact ⟨by rw [HF.out]; rfl, Below.refl _ _⟩
  · have HF := Lib.hid (show unescape s = match unescL s.data.toList with
      | none => (⟨#[]⟩, 44)
      | some t => if escape (mk t) = s then (mk t, 0) else (⟨#[]⟩, 44) by unfold unescape; rw [if_neg h37])
    have t0 : (s.toList == [37]) = false := by have := str_ne h37; rwa [show (⟨#[37]⟩ : ByteArray).toList = [37] from toList_eq _] at this
    have HS := Lib.hid hs
    replace hs : s.size ≤ 2 ^ 63 - 3 := by omega
    clear h37
    obtain ⟨i0, hi, hz0, hz1, hz2⟩ := info_parts info5
    go_enter Try.func35, Try.ntmps35
    go_wp2_with fail
    refine (tab BIG w (by decide)).mono ?_
    rintro e w1 ⟨rfl, hb1⟩
    have HB1 := Lib.hid hb1
    clear hb1
    have hz := zero62
    have h1 : (tabA BIG BIG.size).all (·.oneCell') = true := by
      rw [tabA]; simpa using tabN_one 256 BIG.data.toList BIG.size
    have hsz : (Try.prog.info? 62).map (·.size) = some (tabA BIG BIG.size).size := by rw [tabA_size]; kernel_rfl
    have hsz2 : zeros256.size = (tabA BIG BIG.size).size := by rw [tabA_size]; simp [zeros256, zerosN]
    have H1 := Lib.hid h1
    have H2 := Lib.hid hsz
    have H3 := Lib.hid hsz2
    clear h1 hsz hsz2
    obtain ⟨T, hT⟩ : ∃ T, T = tabA BIG BIG.size := ⟨_, rfl⟩
    rw [← hT] at H1 H2 H3 ⊢
    have HT := Lib.hid hT
    clear hT
    go_wp2_with (refine wpList_store_row rfl 62 _ _ rfl _ _ rfl rfl 62 _ (heap_alloc_new _ _) H2.out H3.out H1.out ?_)
    have hb2 : Below w.heap.size w ((w1.alloc (.cells zeros256 62)).setRow w1.heap.size T) := below_setRow (HB1.out.alloc HB1.out.size _) HB1.out.size _
    have ht2 := setRow_heap (w1.alloc (.cells zeros256 62)) w1.heap.size zeros256 T 62 _ (heap_alloc_new _ _)
    have HB2 := Lib.hid hb2
    have HT2 := Lib.hid ht2
    clear hb2 ht2 hz
    generalize (w1.alloc (.cells zeros256 62)).setRow w1.heap.size T = w2 at HB2 HT2 ⊢
    obtain ⟨B, hBeq⟩ : ∃ B, B = w1.heap.size := ⟨_, rfl⟩
    have HBge := Lib.hid (show w.heap.size ≤ B by rw [hBeq]; exact HB1.out.size)
    rw [← hBeq] at HT2 ⊢
    clear hBeq HB1 H1 H2 H3
    go_loopw [5, 6] (fun ov iv wr => ∃ (i : Nat) (xs : List UInt8), i ≤ s.size ∧ iv = .int .i64 i ∧ Hid (xs.length ≤ i ∧ unescL s.data.toList = (unescL (s.data.toList.drop i)).map (xs ++ ·)) ∧ Hid (wr.heap[B]? = some (.cells T 62 (0, 0))) ∧ Hid (wr.ownsRow (B + 1) 5 1 ov xs.length (xs.map bv)) ∧ Hid (Below w.heap.size w wr)) (fun _ iv _ => s.size - (intOf iv).toNat)
    case atStart => exact ⟨0, [], by omega, rfl, Lib.hid ⟨by simp, by simp⟩, HT2, Lib.hid (World.ownsRow_nil _ _ _ _), HB2⟩
    case round =>
      clear HB2 HT2
      obtain ⟨i, xs, his, rfl, HL, HT2, HO, HB⟩ := hrel
      have hBlt : B < wr.heap.size := (Array.getElem?_eq_some_iff.1 HT2.out).1
      by_cases hlt : i < s.size
      · by_cases hx : s[i] = 37
        · have t1 : ((s[i].toNat : Int) != 37) = false := by rw [hx]; rfl
          by_cases h2 : i + 2 < s.size
          · have t2 : decide ((s.size : Int) ≤ (i : Int) + 2) = false := decide_eq_false (by omega)
            have hd3 := drop3 s i h2
            have c1 : wr.cell? ⟨B, s[i + 1].toNat, none⟩ = some (.int .u8 ((tb BIG s[i + 1] : Nat) : Int)) := by
              simp [World.cell?, HT2.out, HT.out]; exact tab_at tab_big rfl s[i + 1]
            have c2 : wr.cell? ⟨B, s[i + 2].toNat, none⟩ = some (.int .u8 ((tb BIG s[i + 2] : Nat) : Int)) := by
              simp [World.cell?, HT2.out, HT.out]; exact tab_at tab_big rfl s[i + 2]
            have l1 : (s[i + 1].toNat : Int) < 256 := by have := s[i + 1].toNat_lt; omega
            have l2 : (s[i + 2].toNat : Int) < 256 := by have := s[i + 2].toNat_lt; omega
            have d1 : tb BIG s[i + 1] ≤ 16 := tb_le _ _
            have d2 : tb BIG s[i + 2] ≤ 16 := tb_le _ _
            obtain ⟨y, hy⟩ : ∃ y, y = tb BIG s[i + 1] := ⟨_, rfl⟩
            obtain ⟨z, hz⟩ : ∃ z, z = tb BIG s[i + 2] := ⟨_, rfl⟩
            rw [← hy] at c1 d1
            rw [← hz] at c2 d2
            have HY := Lib.hid hy
            have HZ := Lib.hid hz
            have HD3 := Lib.hid hd3
            clear hy hz hd3
            by_cases hyz : y = 0 ∨ z = 0
            · have HF2 := Lib.hid (show unescape s = (⟨#[]⟩, 44) by
                rw [HF.out, HL.out.2, HD3.out, unescL, if_pos hx, ← HY.out, ← HZ.out, if_pos hyz]; rfl)
              clear hx
              by_cases hy0 : y = 0
              · have t3 : ((y : Int) == 0) = true := by simp [hy0]
                clear hy0 hyz
                go_wp2
                go_ret2
                exact ⟨by rw [HF2.out]; rfl, HB.out⟩
              · have t3 : ((y : Int) == 0) = false := by simp [hy0]
                have t4 : ((z : Int) == 0) = true := by simp; omega
                clear hy0 hyz
                go_wp2
                go_ret2
                exact ⟨by rw [HF2.out]; rfl, HB.out⟩
            · have t3 : ((y : Int) == 0) = false := by simp; omega
              have t4 : ((z : Int) == 0) = false := by simp; omega
              have y1 : 1 ≤ y := by omega
              have z1 : 1 ≤ z := by omega
              have hor := u8_or16 y z ⟨y1, d1⟩ ⟨z1, d2⟩
              have HX := Lib.hid hx
              clear hx hyz
              go_wp2
              refine wp_region_seq (fun w' => w'.cell? ⟨B, s[i + 1].toNat, none⟩ = some (.int .u8 (y : Int)) ∧ w'.cell? ⟨B, s[i + 2].toNat, none⟩ = some (.int .u8 (z : Int))) [(0, false), (1, false), (2, false), (3, false), (4, false), (5, false), (6, false), (7, false), (8, false), (9, false), (10, false), (11, false), (12, false), (13, false), (14, false), (15, false), (16, false), (17, true), (18, true), (19, true)] (by kernel_rfl) (by kernel_rfl) (fun _ _ d _ _ h => by cases d <;> exact h) ⟨c1, c2⟩ ?_
              repeat (refine seqH_held ?_ (by rfl) (by rfl) (fun w' ⟨s1, s2⟩ => ?_) ?_; rotate_left; focus (go_simp; (try go_bits); exact rfl))
              refine seqH_actS (by rfl) (by rfl) (fun K hK => ?_)
              go_wp2_with fail
              rw [show Value.int IntKind.u8 (((y - 1 : Nat) : Int) * 16 + ((z - 1 : Nat) : Int)) = bv (UInt8.ofNat ((y - 1) * 16 + (z - 1))) from (unq_val y z d1 d2).symm]
              refine hK _ _ ⟨cell_alloc c1 _, cell_alloc c2 _⟩ ?_
              have HL2 := Lib.hid (show (xs ++ [UInt8.ofNat ((y - 1) * 16 + (z - 1))]).length ≤ i + 3 ∧ unescL s.data.toList = (unescL (s.data.toList.drop (i + 3))).map ((xs ++ [UInt8.ofNat ((y - 1) * 16 + (z - 1))]) ++ ·) by
                obtain ⟨h1, h2⟩ := HL.out
                refine ⟨by simp; omega, ?_⟩
                rw [h2, HD3.out, unescL, if_pos HX.out, ← HY.out, ← HZ.out, if_neg (by omega), Option.map_map]
                congr 1
                funext l; simp)
              have hown : ((wr.alloc (.cells #[bv (UInt8.ofNat ((y - 1) * 16 + (z - 1)))] 5)).drew).ownsRow (B + 1) 5 1 u5 xs.length (xs.map bv) := (HO.out.alloc _).drew
              have hwb : ((wr.alloc (.cells #[bv (UInt8.ofNat ((y - 1) * 16 + (z - 1)))] 5)).drew).heap[wr.heap.size]? = some (.cells #[bv (UInt8.ofNat ((y - 1) * 16 + (z - 1)))] 5 (0, 0)) := heap_alloc_new _ _
              refine seqH_act (by kernel_rfl) (by rfl) (by rfl) (fun K2 hK2 => ?_)
              refine wp_append_lies _ (.tmp 50) (.tmp 67) 52 rfl (B + 1) 5 i0 (.int .u8 0) 1 1 Try.underlying52 hi hz0 hz1 hz2 rfl (by decide) u5 xs.length (xs.map bv) rfl hown ⟨wr.heap.size, 0, none⟩ 1 1 [bv (UInt8.ofNat ((y - 1) * 16 + (z - 1)))] rfl rfl (World.news_of_block hwb) (bv_one [_]) (by decide) (by have := HL.out.1; have := HS.out; unfold maxLen; omega) (by have := HL.out.1; have := HS.out; omega) (by simp; omega) _ rfl ?_
              intro g cap w3 hown2 hgrow hat hltg
              refine hK2 _ _ ?_
              have HO2 : Hid (w3.ownsRow (B + 1) 5 1 (.slice (some ⟨g, 0, none⟩) (xs.length + 1) cap) (xs ++ [UInt8.ofNat ((y - 1) * 16 + (z - 1))]).length ((xs ++ [UInt8.ofNat ((y - 1) * 16 + (z - 1))]).map bv)) := Lib.hid (by
                rw [List.length_append, List.map_append]; exact hown2)
              have hgr := grownBy_of_alloc hgrow
              have HB3 := Lib.hid (HB.out.grown hgr (by have := HBge.out; omega) (fun k hk => by have := (HO.out.lt k hk).1; have := HBge.out; omega))
              have HT3 := Lib.hid ((hgr.block B hBlt (fun e => by have := (HO.out.lt B e.symm).1; omega)).trans HT2.out)
              clear hown hwb hown2 hgrow hat hltg hgr c1 c2 hK hK2
              refine seqH_act (by kernel_rfl) (by rfl) (by rfl) (fun K3 hK3 => ?_)
              go_wp2
              refine seqH_nil ?_
              go_wp2
              exact ⟨⟨i + 3, _, by omega, by go_num, HL2, HT3, HO2, HB3⟩, by simp [intOf]; omega⟩
          · have t2 : decide ((s.size : Int) ≤ (i : Int) + 2) = true := decide_eq_true (by omega)
            have HF2 := Lib.hid (show unescape s = (⟨#[]⟩, 44) by
              rw [HF.out, HL.out.2, drop_at s i hlt, unescL_short _ _ hx (by simp; omega)]; rfl)
            clear hx h2
            go_wp2
            go_ret2
            exact ⟨by rw [HF2.out]; rfl, HB.out⟩
        · have t1 : ((s[i].toNat : Int) != 37) = true := by
            simp; intro h; exact hx (UInt8.toNat_inj.1 (by have : (37 : UInt8).toNat = 37 := rfl; omega))
          have HL2 := Lib.hid (show (xs ++ [s[i]]).length ≤ i + 1 ∧ unescL s.data.toList = (unescL (s.data.toList.drop (i + 1))).map ((xs ++ [s[i]]) ++ ·) by
            obtain ⟨h1, h2⟩ := HL.out
            refine ⟨by simp; omega, ?_⟩
            rw [h2, drop_at s i hlt, unescL_plain _ _ hx, Option.map_map]
            congr 1
            funext l; simp)
          clear hx
          go_wp2_with (at_builtin; refine wpList_append_lies _ rfl (.tmp 21) (.tmp 25) 52 rfl (B + 1) 5 i0 (.int .u8 0) 1 1 Try.underlying52 hi hz0 hz1 hz2 rfl (by decide) _ _ _ rfl (HO.out.alloc _) ⟨wr.heap.size, 0, none⟩ 1 1 [Value.int IntKind.u8 (s[i].toNat : Int)] rfl rfl (World.news_of_block (heap_alloc_new _ _)) (bv_one [s[i]]) (by decide) (by have := HL.out.1; have := HS.out; unfold maxLen; omega) (by have := HL.out.1; have := HS.out; omega) (by simp; omega) _ rfl ?_)
          intro g cap w3 hown2 hgrow hat hltg
          have HO2 : Hid (w3.ownsRow (B + 1) 5 1 (.slice (some ⟨g, 0, none⟩) (xs.length + 1) cap) (xs ++ [s[i]]).length ((xs ++ [s[i]]).map bv)) := Lib.hid (by
            rw [List.length_append, List.map_append]; exact hown2)
          have hgr : wr.grownBy w3 u5.ownBlock := grownBy_of_alloc ⟨hgrow.os, hgrow.tape, hgrow.output, hgrow.size, hgrow.block⟩
          have HB3 := Lib.hid (HB.out.grown hgr (by have := HBge.out; omega) (fun k hk => by have := (HO.out.lt k hk).1; have := HBge.out; omega))
          have HT3 := Lib.hid ((hgr.block B hBlt (fun e => by have := (HO.out.lt B e.symm).1; omega)).trans HT2.out)
          clear hown2 hgrow hat hltg hgr
          go_wp2
          exact ⟨⟨i + 1, _, by omega, by go_num, HL2, HT3, HO2, HB3⟩, by simp [intOf]; omega⟩
      · obtain rfl : i = s.size := by omega
        have HU := Lib.hid (show unescL s.data.toList = some xs by
          have e : s.data.toList.drop s.size = [] := List.drop_eq_nil_of_le (by simp)
          rw [HL.out.2, e]; simp [unescL])
        have hconv := own_string HO.out
        have hxs : (mk xs).size ≤ s.size := HL.out.1
        have HXS := Lib.hid (show 3 * (mk xs).size + 3 < 140737488355328 by have := HS.out; omega)
        clear hxs
        go_wp2_with fail
        refine (escape_calls (mk xs) HXS.out wr).mono ?_
        rintro e w3 ⟨rfl, hb3⟩
        have HB3 := Lib.hid (HB.out.trans (hb3.mono HB.out.size))
        clear hb3 hconv
        obtain ⟨D, hD⟩ : ∃ D, D = escape (mk xs) := ⟨_, rfl⟩
        rw [← hD]
        have HD := Lib.hid hD
        clear hD
        by_cases hDs : D = s
        · have HF2 := Lib.hid (show unescape s = (mk xs, 0) by
            rw [HF.out, HU.out]; simp only; rw [if_pos (by rw [← HD.out]; exact hDs)])
          have t1 : (D.toList == s.toList) = true := by rw [hDs]; exact str_eq s
          clear hDs
          go_wp2
          go_ret2
          exact ⟨by rw [HF2.out]; rfl, HB3.out⟩
        · have HF2 := Lib.hid (show unescape s = (⟨#[]⟩, 44) by
            rw [HF.out, HU.out]; simp only; rw [if_neg (by rw [← HD.out]; exact hDs)])
          have t1 := str_ne hDs
          clear hDs
          go_wp2
          go_ret2
          exact ⟨by rw [HF2.out]; rfl, HB3.out⟩
end Go.Proofs.Ytaghjiffmondjaa
