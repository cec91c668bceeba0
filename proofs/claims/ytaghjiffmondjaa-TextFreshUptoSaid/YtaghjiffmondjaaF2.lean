/-
  apart.
-/
import Derived.Test.YtaghjiffmondjaaF1
set_option linter.unusedVariables false
set_option linter.unusedSimpArgs false
namespace Go.Proofs.Ytaghjiffmondjaa
open Go.RowKit


theorem tmod26 (i : Nat) : ((i : Int)).tmod 26 = ((i % 26 : Nat) : Int) := (Int.ofNat_tmod i 26).symm
theorem rep_end (l : List ByteArray) (m : ByteArray) : List.replicate l.length m ++ l.drop l.length = List.replicate l.length m := by simp
/-- the first i lists are marked -/
def mkd (lf : Nat → List ByteArray) (i k : Nat) : List ByteArray := if k < i then List.replicate (lf k).length (markOf k) else lf k
theorem mkd_len (lf : Nat → List ByteArray) (i k : Nat) : (mkd lf i k).length = (lf k).length := by unfold mkd; split <;> simp
theorem info9' : (Try.prog.info? 9).map (fun i => (i.zero, i.size, i.bytes)) = some (some (.string ⟨#[]⟩), 1, 16) := by kernel_rfl
theorem info23' : (Try.prog.info? 23).map (fun i => (i.zero, i.size, i.bytes)) = some (some (.slice none 0 0), 1, 24) := by kernel_rfl
structure Many (w : World) (n : Nat) (uf : Nat → Value) (cf : Nat → List ByteArray) (F : Nat → Nat → Prop) : Prop where
  row : ∀ k, k < n → Row 9 w (uf k) ((cf k).map Value.string) (F k)
section
variable {n : Nat} {uf : Nat → Value} {cf cf' : Nat → List ByteArray} {F : Nat → Nat → Prop} {w w' : World}
theorem Many.keep (h : Many w n uf cf F) (hk : ∀ k, k < n → ∀ b, b < w.heap.size → F k b → w'.heap[b]? = w.heap[b]?) : Many w' n uf cf F := ⟨fun k h1 => (h.row k h1).keep (hk k h1)⟩
end
/-- the second loop of apart: j lists have been made longer -/
structure L2 (w : World) (B0 n : Nat) (n' : Nat) (uf : Nat → Value) (lf : Nat → List ByteArray) (F : Nat → Nat → Prop) (mv : Value) (ms : List Value) (Fm : Nat → Prop) (j : Nat) : Prop where
  le : j ≤ n
  rowk : ∀ k, j ≤ k → k < n → Row 9 w (uf k) ((List.replicate (lf k).length (markOf k)).map Value.string) (F k)
  viewk : ∀ k, k < j → View w (uf k) ((List.replicate (lf k).length (markOf k)).map Value.string) (F k)
  more : Row 23 w mv ms Fm
  mlen : ms.length = j
  mview : ∀ k, k < j → ∃ u G, ms[k]? = some u ∧ View w u ((List.replicate (lf k).length (markOf k) ++ List.replicate 64 (markOf k)).map Value.string) G ∧ ∀ b, G b → (F k b ∨ B0 ≤ b) ∧ ¬ Fm b ∧ b < w.heap.size
  fm : ∀ b, Fm b → B0 ≤ b ∧ b < w.heap.size
  size : B0 ≤ w.heap.size
theorem L2.step {w1 wr w4 : World} {B0 n j : Nat} {uf : Nat → Value} {lf : Nat → List ByteArray} {F : Nat → Nat → Prop} {mv lv v3 : Value} {ms : List Value} {Fm Fl : Nat → Prop} (H : L2 w1 B0 n n uf lf F mv ms Fm j) (hlt : j < n)
    (T1 : Turn (F j) w1 wr) (hrow : Row 9 wr lv ((List.replicate (lf j).length (markOf j) ++ List.replicate 64 (markOf j)).map Value.string) Fl) (hFl : ∀ b, Fl b → (F j b ∨ w1.heap.size ≤ b) ∧ b < wr.heap.size)
    (hv : View wr (uf j) ((List.replicate (lf j).length (markOf j)).map Value.string) (F j)) (o : Obj) (hr3 : Row 23 w4 v3 (ms ++ [lv]) (fun b => Fm b ∨ wr.heap.size + 1 ≤ b)) (ht3 : Turn Fm (wr.alloc o) w4)
    (hdis : ∀ i j b, i ≠ j → F i b → ¬ F j b) (hFB : ∀ k b, F k b → b < B0) :
    L2 w4 B0 n n uf lf F v3 (ms ++ [lv]) (fun b => (Fm b ∨ wr.heap.size ≤ b) ∧ b < w4.heap.size) (j + 1) ∧ Turn Fm wr w4 := by
  have T2 : Turn Fm wr w4 := ((Turn.refl Fm wr).alloc o).trans ht3
  have s1 := T1.size
  have s2 := T2.size
  have hFm : ∀ k b, F k b → ¬ Fm b := fun k b h1 h2 => by have := hFB k b h1; have := (H.fm b h2).1; omega
  refine ⟨⟨by omega, fun k h1 h2 => ((H.rowk k (by omega) h2).turn T1 (fun b h3 => hdis k j b (by omega) h3)).turn T2 (hFm k), fun k hk => ?_, hr3.here.mono fun b h1 h2 => ⟨h2.1.elim .inl (fun h => .inr (by omega)), h2.2⟩, by rw [List.length_append, H.mlen]; rfl, fun k hk => ?_, fun b hb => ⟨hb.1.elim (fun h => (H.fm b h).1) (fun h => by have := H.size; omega), hb.2⟩, by have := H.size; omega⟩, T2⟩
  · by_cases he : k = j
    · subst he; exact hv.turn T2 fun b _ h => hFm k b h
    · exact ((H.viewk k (by omega)).turn T1 fun b _ h => hdis k j b he h).turn T2 fun b _ h => hFm k b h
  · by_cases he : k = j
    · subst he
      refine ⟨lv, fun b => Fl b ∧ b < wr.heap.size, by rw [← H.mlen]; simp, ?_, fun b hb => ?_⟩
      · refine (hrow.view.mono (G := fun b => Fl b ∧ b < wr.heap.size) fun b h1 h2 => ⟨h2, h1⟩).turn T2 fun b _ h hm => ?_
        have h5 := H.fm b hm
        rcases (hFl b h.1).1 with h6 | h6
        · exact hFm k b h6 hm
        · omega
      · have h7 := hFl b hb.1
        refine ⟨h7.1.elim .inl (fun h => .inr (by have := H.size; omega)), fun hm => ?_, by omega⟩
        rcases hm.1 with h8 | h8
        · have h5 := H.fm b h8
          rcases h7.1 with h6 | h6
          · exact hFm k b h6 h8
          · omega
        · omega
    · obtain ⟨u, G, q1, q2, q3⟩ := H.mview k (by omega)
      refine ⟨u, G, by rw [List.getElem?_append_left (by rw [H.mlen]; omega)]; exact q1, ?_, fun b hb => ?_⟩
      · refine (q2.turn T1 fun b _ h hj => ?_).turn T2 fun b _ h => (q3 b h).2.1
        rcases (q3 b h).1 with h6 | h6
        · exact hdis k j b he h6 hj
        · have := hFB j b hj; omega
      · obtain ⟨h6, h7, h8⟩ := q3 b hb
        exact ⟨h6, fun hm => hm.1.elim h7 (fun h => by omega), by omega⟩
set_option maxHeartbeats 4000000 in
set_option maxRecDepth 100000 in
theorem apart_calls (n : Nat) (uf : Nat → Value) (lf : Nat → List ByteArray) (v : Value) (O : Nat → Prop) (F : Nat → Nat → Prop) (w : World) (B : Nat)
    (hv : Out w v n uf O) (hn : n ≤ 1000) (hL : ∀ k, (lf k).length ≤ 1000000000) (hrow : Many w n uf lf F)
    (hdis : ∀ i j b, i ≠ j → F i b → ¬ F j b) (hO : ∀ k b, O b → ¬ F k b) (hFB : ∀ k b, F k b → B ≤ b ∧ b < w.heap.size) (hOB : ∀ b, O b → b < w.heap.size) (hBB : B ≤ w.heap.size) :
    Calls Try.prog 54 #[v] w fun r w' => r = .returned (.bool true) ∧ Below B w w' := by
  obtain ⟨i9, hi9, hz0, hz1, hz2⟩ := info_parts info9'
  obtain ⟨i23, hi23, hy0, hy1, hy2⟩ := info_parts info23'
  have HV0 := Lib.hid hv
  have HR0 := Lib.hid hrow
  have HL := Lib.hid hL
  have HD := Lib.hid hdis
  have HO := Lib.hid hO
  have HFB := Lib.hid hFB
  have HOB := Lib.hid hOB
  have HBB := Lib.hid hBB
  obtain ⟨A, cap0, rfl, _⟩ := hv
  clear hrow hL hdis hO hFB hOB hBB
  go_enter Try.func54, Try.ntmps54
  go_wp2
  go_loopw [3] (fun iv wr => ∃ i : Nat, iv = .int .i64 i ∧ i ≤ n ∧ Hid (Many wr n uf (mkd lf i) F) ∧ Hid (Out wr (.slice A n cap0) n uf O) ∧ Hid (Turn (fun b => ∃ k, F k b) w wr)) (fun iv _ => n - (intOf iv).toNat)
  case atStart => exact ⟨0, rfl, by omega, Lib.hid ⟨fun k hk => by unfold mkd; rw [if_neg (by omega)]; exact HR0.out.row k hk⟩, HV0, Lib.hid (Turn.refl _ _)⟩
  case round =>
    obtain ⟨i, rfl, hi, HM, HV, HT⟩ := hrel
    by_cases hlt : i < n
    · have HLI := Lib.hid (HL.out i)
      obtain ⟨w1, hw1⟩ : ∃ w1, w1 = wr := ⟨_, rfl⟩
      have HW1 := Lib.hid hw1
      clear hw1
      have hr0 := HM.out.row i hlt
      rw [show mkd lf i i = lf i by unfold mkd; rw [if_neg (by omega)]] at hr0
      obtain ⟨A1, cap1, hsh⟩ := hr0.shape
      rw [List.length_map] at hsh
      have HSH := Lib.hid hsh
      have HR1 := Lib.hid hr0
      clear hr0 hsh
      go_wp2
      go_loopw [4] (fun jv wr => ∃ j : Nat, jv = .int .i64 j ∧ j ≤ (lf i).length ∧ Hid (Row 9 wr (uf i) ((List.replicate j (markOf i) ++ (lf i).drop j).map Value.string) (F i)) ∧ Hid (∀ k, k < n → k ≠ i → Row 9 wr (uf k) ((mkd lf i k).map Value.string) (F k)) ∧ Hid (Out wr (.slice A n cap0) n uf O) ∧ Hid (Turn (fun b => ∃ k, F k b) w wr)) (fun jv _ => (lf i).length - (intOf jv).toNat)
      case atStart => exact ⟨0, rfl, by omega, Lib.hid (by simpa using HR1.out), Lib.hid (fun k hk _ => HM.out.row k hk), HV, HT⟩
      case round =>
        clear HM HV HT HR1
        obtain ⟨j, rfl, hj, HR, HM, HV, HT⟩ := hrel
        have hli : (lf i).length ≤ 1000000000 := HLI.out
        obtain ⟨A2, c2, e1, e2⟩ := HV.out
        injection e1 with e1 _ e3
        subst e1 e3
        obtain ⟨b, o, rfl, hb, hbO, hcell⟩ := e2 (by omega)
        have c0' := hcell i hlt
        have HBW := Lib.hid hb
        have HBO := Lib.hid hbO
        clear e2 hcell hb hbO
        by_cases hjl : j < (lf i).length
        · have hlen : ((List.replicate j (markOf i) ++ (lf i).drop j).map Value.string).length = (lf i).length := by simp; omega
          obtain ⟨g, cap, q1, q2, q3, q4, q5, q6⟩ := HR.out.placeA (i := j) (by rw [hlen]; exact hjl)
          rw [hlen] at q1
          have c0 : wr.cell? ⟨b, o + i, none⟩ = some (.slice (some ⟨g, 0, none⟩) (lf i).length cap) := by rw [c0', q1]
          have HQ2 := Lib.hid q2
          have HQ3 := Lib.hid q3
          have HQ6 := Lib.hid fun o => q6 o (.string (markOf i))
          obtain ⟨u0, hu0⟩ : ∃ u, u = ((List.replicate j (markOf i) ++ (lf i).drop j).map Value.string)[j]'(by rw [hlen]; exact hjl) := ⟨_, rfl⟩
          rw [← hu0] at q4
          have HCP := Lib.hid q1
          have hgb : g ≠ b := fun e => HO.out i b HBO.out (e ▸ q2)
          clear c0' hlen q1 q2 q3 q6 hu0
          have hmt := tmod26 i
          have hm26 : i % 26 < 26 := Nat.mod_lt _ (by decide)
          have hlc := letter_at (wr.alloc (.cells #[.int .u8 (IntKind.u8.wrap (IntKind.i64.wrap (97 + ((i % 26 : Nat) : Int))))] 5)).drew wr.heap.size i _ (wrap97 i) (MapKept.heap_alloc wr _).1
          have k0 : (wr.alloc (.cells #[.int .u8 (IntKind.u8.wrap (IntKind.i64.wrap (97 + ((i % 26 : Nat) : Int))))] 5)).drew.cell? ⟨b, o + i, none⟩ = some (.slice (some ⟨g, 0, none⟩) (lf i).length cap) := (World.cell?_of_block (w := wr) (Below.heap_alloc wr _ b HBW.out)).trans c0
          have k4 : (wr.alloc (.cells #[.int .u8 (IntKind.u8.wrap (IntKind.i64.wrap (97 + ((i % 26 : Nat) : Int))))] 5)).drew.cell? ⟨g, j, none⟩ = some u0 := (World.cell?_of_block (w := wr) (Below.heap_alloc wr _ g HQ3.out)).trans q4
          have k5 : (wr.alloc (.cells #[.int .u8 (IntKind.u8.wrap (IntKind.i64.wrap (97 + ((i % 26 : Nat) : Int))))] 5)).drew.frozen? ⟨g, j, none⟩ = false := (World.frozen?_of_block (w := wr) (Below.heap_alloc wr _ g HQ3.out)).trans q5
          clear q4 q5
          have HMK := Lib.hid (show (⟨#[109, 97, 114, 107]⟩ : ByteArray) ++ letterOf i = markOf i from rfl)
          obtain ⟨z, hz⟩ : ∃ z, z = i % 26 := ⟨_, rfl⟩
          rw [← hz] at hmt hm26 hlc k4 k5 k0
          clear hz
          go_wp2
          refine wp_region_ord (fun w' => w'.cell? ⟨b, o + i, none⟩ = some (.slice (some ⟨g, 0, none⟩) (lf i).length cap)) [(0, false), (1, false), (2, false), (3, false), (4, false), (5, false), (6, false), (7, false), (8, false), (9, true), (10, true), (11, true), (12, true), (13, true)] (by kernel_rfl) (by kernel_rfl) (fun _ _ d _ _ h => by cases d <;> exact h) c0 ?_
          iterate 9
            refine heldL ?_ ?_ (by rfl) (by rfl) (fun w' s1 => ?_) ?_ ?_
            rotate_left 2
            focus (go_simp; exact rfl)
            focus (go_simp; exact rfl)
          refine actSL (by rfl) (by rfl) (fun K hK => ?_)
          go_simp
          refine hK _ _ (by first | exact k0 | (go_simp; exact k0) | go_simp) ?_
          clear hK
          refine actSL (by rfl) (by rfl) (fun K hK => ?_)
          go_simp
          refine hK _ _ (by first | exact k0 | (go_simp; exact k0) | go_simp) ?_
          clear hK
          refine actSL (by rfl) (by rfl) (fun K hK => ?_)
          go_simp
          refine hK _ _ (by first | exact k0 | (go_simp; exact k0) | go_simp) ?_
          clear hK
          refine actL (by kernel_rfl) (by rfl) (by rfl) (fun K hK => ?_)
          go_simp
          refine hK _ _ ?_
          clear hK
          refine actL (by kernel_rfl) (by rfl) (by rfl) (fun K hK => ?_)
          go_wp2_with fail
          refine nilL ?_
          go_wp2
          go_roundw
          case rel =>
            have h6 := HQ6.out (.cells #[.int .u8 (97 + (z : Int))] 5)
            refine ⟨j + 1, by go_num, by omega, Lib.hid ?_, Lib.hid (fun k hk hne => (HM.out k hk hne).turn h6.2 fun b hF e => HD.out k i b hne hF (e ▸ HQ2.out)), Lib.hid (HV.out.turn h6.2 fun b' hb' e => HO.out i b' hb' (e ▸ HQ2.out)), Lib.hid (HT.out.trans (h6.2.mono fun b e => .inl ⟨i, e ▸ HQ2.out⟩))⟩
            have h7 := h6.1
            rw [rep_set j (markOf i) (lf i) hjl] at h7
            exact h7
          case measure => simp [intOf]; omega
        · obtain rfl : j = (lf i).length := by omega
          have c0 : wr.cell? ⟨b, o + i, none⟩ = some (.slice A1 (lf i).length cap1) := by rw [c0', HSH.out]
          clear c0'
          have HM2 := Lib.hid (show Many wr n uf (mkd lf (i + 1)) F from ⟨fun k hk => by
            by_cases he : k = i
            · subst he
              have := HR.out
              rw [rep_end] at this
              unfold mkd
              rw [if_pos (by omega)]
              exact this
            · have := HM.out k hk he
              rw [show mkd lf (k := k) (i := i + 1) = mkd lf i k by unfold mkd; split <;> split <;> first | rfl | omega]
              exact this⟩)
          clear hjl
          go_wp2
          go_roundw
          case rel => exact ⟨i + 1, by go_num, by omega, HM2, HV, HT⟩
          case measure => simp [intOf]; omega
    · obtain rfl : i = n := by omega
      go_wp2
      have HM1 := Lib.hid (show ∀ k, k < i → Row 9 wr (uf k) ((List.replicate (lf k).length (markOf k)).map Value.string) (F k) from fun k hk => by
        have := HM.out.row k hk
        unfold mkd at this
        rwa [if_pos hk] at this)
      clear HM HR0 HV0
      have hfm0 : Hid (L2 wr w.heap.size i i uf lf F (.slice none 0 0) [] (fun _ => False) 0) := Lib.hid ⟨Nat.zero_le _, fun k _ hk => HM1.out k hk, fun k hk => absurd hk (Nat.not_lt_zero _), Row.nil, rfl, fun k hk => absurd hk (Nat.not_lt_zero _), fun b hb => hb.elim, HT.out.size⟩
      clear HM1
      go_loopw [5, 6] (fun mv jv wr => ∃ (j : Nat) (ms : List Value) (Fm : Nat → Prop), jv = .int .i64 j ∧ j ≤ i ∧ Hid (L2 wr w.heap.size i i uf lf F mv ms Fm j) ∧ Hid (Out wr (.slice A i cap0) i uf O) ∧ Hid (Turn (fun b => ∃ k, F k b) w wr)) (fun _ jv _ => i - (intOf jv).toNat)
      case atStart => exact ⟨0, [], fun _ => False, rfl, by omega, hfm0, HV, HT⟩
      case round =>
        clear HV HT hfm0
        obtain ⟨j, ms, Fm, rfl, hj, HL2, HV, HT⟩ := hrel
        by_cases hlt : j < i
        · have HLI := Lib.hid (HL.out j)
          obtain ⟨w1, hw1⟩ : ∃ w1, w1 = wr := ⟨_, rfl⟩
          have HW1 := Lib.hid hw1
          have HL2w := Lib.hid (show L2 w1 w.heap.size i i uf lf F _ ms Fm j from hw1 ▸ HL2.out)
          have HVw := Lib.hid (show Out w1 (.slice A i cap0) i uf O from hw1 ▸ HV.out)
          have HTw := Lib.hid (show Turn (fun b => ∃ k, F k b) w w1 from hw1 ▸ HT.out)
          clear hw1
          have hr0 := HL2.out.rowk j (Nat.le_refl _) hlt
          obtain ⟨A1, cap1, hsh⟩ := hr0.shape
          rw [List.length_map, List.length_replicate] at hsh
          obtain ⟨A2, c2, e1, e2⟩ := HV.out
          injection e1 with e1 _ e3
          subst e1 e3
          obtain ⟨b, o, rfl, hb, hbO, hcell⟩ := e2 (by omega)
          have c0' := hcell j hlt
          have c0 : wr.cell? ⟨b, o + j, none⟩ = some (.slice A1 (lf j).length cap1) := by rw [c0', hsh]
          have HR1 := Lib.hid (show Row 9 w1 (.slice A1 (lf j).length cap1) ((List.replicate (lf j).length (markOf j) ++ List.replicate 0 (markOf j)).map Value.string) (fun b => F j b ∧ b < w1.heap.size) from by
            rw [← hsh, HW1.out, List.replicate_zero, List.append_nil]
            exact hr0.here)
          have HVW := Lib.hid (show View w1 (uf j) ((List.replicate (lf j).length (markOf j)).map Value.string) (F j) from by rw [HW1.out]; exact hr0.view)
          clear e2 hcell hb hbO hr0 hsh c0'
          go_wp2
          have hrw : wr = w1 := HW1.out.symm
          go_loopw [7, 8] (fun lv kv wr => ∃ (t : Nat) (Fl : Nat → Prop), kv = .int .i64 t ∧ t ≤ 64 ∧ Hid (Row 9 wr lv ((List.replicate (lf j).length (markOf j) ++ List.replicate t (markOf j)).map Value.string) Fl) ∧ Hid (∀ b, Fl b → (F j b ∨ w1.heap.size ≤ b) ∧ b < wr.heap.size) ∧ Hid (View wr (uf j) ((List.replicate (lf j).length (markOf j)).map Value.string) (F j)) ∧ Hid (Turn (F j) w1 wr)) (fun _ kv _ => 64 - (intOf kv).toNat)
          case atStart => exact ⟨0, _, rfl, by omega, Lib.hid (by rw [hrw]; exact HR1.out), Lib.hid (by rw [hrw]; exact fun b hb => ⟨.inl hb.1, hb.2⟩), Lib.hid (by rw [hrw]; exact HVW.out), Lib.hid (by rw [hrw]; exact Turn.refl _ _)⟩
          case round =>
            clear HR1 HVW hrw
            obtain ⟨t, Fl, rfl, ht, HR, HFl, HVW, HTW⟩ := hrel
            have hli : (lf j).length ≤ 1000000000 := HLI.out
            by_cases htl : t < 64
            · have hmt := tmod26 j
              have hm26 : j % 26 < 26 := Nat.mod_lt _ (by decide)
              have hlc := letter_at (wr.alloc (.cells #[.int .u8 (97 + ((j % 26 : Nat) : Int))] 5)) wr.heap.size j _ (by omega) (MapKept.heap_alloc wr _).1
              obtain ⟨z, hz⟩ : ∃ z, z = j % 26 := ⟨_, rfl⟩
              rw [← hz] at hmt hm26 hlc
              clear hz
              obtain ⟨L, hL⟩ : ∃ L, L = (lf j).length := ⟨_, rfl⟩
              rw [← hL] at HR HVW hli
              have HLL := Lib.hid hL
              clear hL
              have HLX := Lib.hid (show ((List.replicate L (markOf j) ++ List.replicate t (markOf j)).map Value.string).length = L + t by simp)
              obtain ⟨X, hX⟩ : ∃ X, X = (List.replicate L (markOf j) ++ List.replicate t (markOf j)).map Value.string := ⟨_, rfl⟩
              rw [← hX] at HR HLX
              have HXX := Lib.hid (show X ++ [.string (markOf j)] = (List.replicate L (markOf j) ++ List.replicate (t + 1) (markOf j)).map Value.string by rw [hX, List.replicate_succ', ← List.append_assoc, List.map_append (l₁ := List.replicate L (markOf j) ++ List.replicate t (markOf j))]; rfl)
              clear hX
              go_wp2_with (at_builtin; go_must (refine wpList_append_row (F := Fl) (news := [Value.string (markOf j)]) rfl (.tmp 54) (.tmp 62) rfl i9 (.string ⟨#[]⟩) 16 Try.underlying23 hi9 hz0 hz1 hz2 rfl rfl ((HR.out.alloc _).alloc _) ⟨wr.heap.size + 1, 0, none⟩ 1 1 rfl rfl (World.news_of_block (heap_alloc2 _ _ _)) (by intro u hu; simp at hu; subst hu; rfl) (by decide) (by rw [HLX.out]; unfold maxLen; omega) (by rw [HLX.out]; omega) ?_))
              intro v2 w3 hrow2 htu2 hcell2
              have HR2 := Lib.hid hrow2
              have HT2 := Lib.hid htu2
              have HC2 := Lib.hid hcell2
              clear hrow2 htu2 hcell2
              go_wp2
              have HTA := Lib.hid (Turn.trans (((Turn.refl Fl wr).alloc _).alloc _) HT2.out)
              refine ⟨⟨t + 1, fun b => (Fl b ∨ wr.heap.size ≤ b) ∧ b < w3.heap.size, by go_num, by omega, Lib.hid ?_, Lib.hid fun b hb => ⟨hb.1.elim (fun h => (HFl.out b h).1) (fun h => .inr (by have := HTW.out.size; omega)), hb.2⟩, Lib.hid ?_, Lib.hid (HTW.out.trans' HTA.out fun i hi => (HFl.out i hi).1)⟩, by simp [intOf]; omega⟩
              · rw [← HLL.out, ← HXX.out]
                refine HR2.out.here.mono fun b h1 h2 => ⟨h2.1.elim .inl (fun h => .inr (by (try simp at h); omega)), h2.2⟩
              · rw [← HLL.out]
                refine HVW.out.keepc HTA.out.size fun b o hb hF ho => (HC2.out b o (by (try simp); omega) (fun _ => by rw [HLX.out]; simp at ho; omega)).trans ?_
                exact (((Turn.refl (fun _ => False) wr).alloc _).alloc _).cell (p := ⟨b, o, none⟩) hb (fun h => h)
            · obtain rfl : t = 64 := by omega
              have HMR := Lib.hid ((HL2w.out.more.turn HTW.out fun b h1 h2 => by have := (HL2w.out.fm b h1).1; have := (HFB.out j b h2).2; omega))
              obtain ⟨A5, c5, hsh5⟩ := HR.out.shape
              have hl5 : (List.map Value.string (List.replicate (lf j).length (markOf j) ++ List.replicate 64 (markOf j))).length = (lf j).length + 64 := by simp
              rw [hl5] at hsh5
              have hml := HL2w.out.mlen
              have HML := Lib.hid hml
              clear hml hl5
              subst hsh5
              go_wp2_with (at_builtin; go_must (refine wpList_append_row (F := Fm) (news := [Value.slice A5 ((lf j).length + 64) c5]) rfl (.tmp 64) (.tmp 66) rfl i23 (.slice none 0 0) 24 Try.underlying65 hi23 hy0 hy1 hy2 rfl rfl (HMR.out.alloc _) ⟨wr.heap.size, 0, none⟩ 1 1 rfl rfl (World.news_of_block (MapKept.heap_alloc _ _).1) (by intro u hu; simp at hu; subst hu; rfl) (by decide) (by rw [HML.out]; unfold maxLen; omega) (by rw [HML.out]; omega) ?_))
              intro v3 w4 hrow3 htu3 hcell3
              obtain ⟨HN, HTN⟩ := L2.step HL2w.out hlt HTW.out HR.out HFl.out HVW.out _ hrow3 htu3 HD.out (fun k b h => (HFB.out k b h).2)
              have HN2 := Lib.hid HN
              have HTN2 := Lib.hid HTN
              clear HN HTN hrow3 htu3 hcell3
              go_wp2
              go_roundw
              case rel => exact ⟨j + 1, _, _, by go_num, by omega, HN2, Lib.hid ((HVw.out.turn HTW.out fun b h => HO.out j b h).turn HTN2.out fun b h1 h2 => by have := HOB.out b h1; have := (HL2w.out.fm b h2).1; omega), Lib.hid ((HTw.out.trans (HTW.out.mono fun b h => .inl ⟨j, h⟩)).trans' HTN2.out fun b h => .inr (HL2w.out.fm b h).1)⟩
              case measure => simp [intOf]; omega
        · obtain rfl : j = i := by omega
          obtain ⟨A6, c6, hsh6⟩ := HL2.out.more.shape
          rw [HL2.out.mlen] at hsh6
          subst hsh6
          obtain ⟨w5, hw5⟩ : ∃ w5, w5 = wr := ⟨_, rfl⟩
          have HB5 := Lib.hid (show Below B w w5 from by rw [hw5]; exact HT.out.below (fun b hb => by obtain ⟨k, hk⟩ := hb; exact (HFB.out k b hk).1) HBB.out)
          have HL5 := Lib.hid (show L2 w5 w.heap.size j j uf lf F (.slice A6 j c6) ms Fm j from hw5 ▸ HL2.out)
          have HV5 := Lib.hid (show Out w5 (.slice A j cap0) j uf O from hw5 ▸ HV.out)
          have hT5 : Hid (Turn (fun _ => False) w5 wr) := Lib.hid (hw5 ▸ Turn.refl _ _)
          clear hw5 HL2 HV HT hlt hj
          go_wp2
          go_loopw [9] (fun iv wr => ∃ i : Nat, iv = .int .i64 i ∧ i ≤ j ∧ Hid (Turn (fun _ => False) w5 wr)) (fun iv _ => j - (intOf iv).toNat)
          case atStart => exact ⟨0, rfl, by omega, hT5⟩
          case round =>
            clear hT5
            obtain ⟨i, rfl, hi, HT⟩ := hrel
            by_cases hlt : i < j
            · have hli : (lf i).length ≤ 1000000000 := HL.out i
              -- the cells
              obtain ⟨u, G, q1, q2, q3⟩ := HL5.out.mview i hlt
              obtain ⟨L, hL⟩ : ∃ L, L = (lf i).length := ⟨_, rfl⟩
              rw [← hL] at q2 hli
              have hq : ∃ g cp, u = .slice (some ⟨g, 0, none⟩) (L + 64) cp ∧ g < w5.heap.size ∧ ∀ t, t < L + 64 → w5.cell? ⟨g, t, none⟩ = some (.string (markOf i)) := by
                rcases q2 with ⟨_, h0⟩ | ⟨g, cp, h1, _, h3, _, h5⟩
                · have := congrArg List.length h0; simp at this
                · refine ⟨g, cp, by rw [h1]; simp, h3, fun t ht => ?_⟩
                  rw [h5 t (by simp; omega)]
                  simp only [List.getElem_map, Option.some.injEq, Value.string.injEq]
                  by_cases htL : t < L
                  · rw [List.getElem_append_left (by simpa using htL), List.getElem_replicate]
                  · rw [List.getElem_append_right (by simp; omega), List.getElem_replicate]
              obtain ⟨g, cp, rfl, hg, hgc⟩ := hq
              have hmv : ∃ gm, A6 = some ⟨gm, 0, none⟩ ∧ gm < w5.heap.size ∧ w5.cell? ⟨gm, i, none⟩ = some (.slice (some ⟨g, 0, none⟩) (L + 64) cp) := by
                have hl := HL5.out.mlen
                rcases HL5.out.more.view with ⟨_, h0⟩ | ⟨gm, cm, h1, _, h3, _, h5⟩
                · rw [h0] at hl; simp at hl; omega
                · injection h1 with h1 _ _
                  refine ⟨gm, h1, h3, ?_⟩
                  rw [h5 i (by omega)]
                  rw [List.getElem?_eq_getElem (by omega)] at q1
                  exact q1
              obtain ⟨gm, rfl, hgm, hgmc⟩ := hmv
              obtain ⟨Au, cu, hushape⟩ : ∃ Au cu, uf i = .slice Au L cu := by
                obtain ⟨A', c', h1⟩ := (HL5.out.viewk i hlt).shape
                exact ⟨A', c', by rw [h1, hL]; simp⟩
              have HUC := Lib.hid (show ∀ t, t < L → ∃ gu, Au = some ⟨gu, 0, none⟩ ∧ gu < w5.heap.size ∧ w5.cell? ⟨gu, t, none⟩ = some (.string (markOf i)) from fun t ht => by
                rcases HL5.out.viewk i hlt with ⟨h0, h1⟩ | ⟨gu, cu', h1, _, h3, _, h5⟩
                · rw [hushape] at h0; injection h0 with _ h0 _; omega
                · rw [hushape] at h1
                  injection h1 with h1 _ _
                  refine ⟨gu, h1, h3, ?_⟩
                  rw [h5 t (by simp; omega)]
                  simp)
              obtain ⟨A2, c2, e1, e2⟩ := HV5.out
              injection e1 with e1 _ e3
              subst e1 e3
              obtain ⟨b, o, rfl, hb, hbO, hcell⟩ := e2 (by omega)
              have hoc := hcell i hlt
              rw [hushape] at hoc
              have HGC := Lib.hid hgc
              have HK := Lib.hid (And.intro hg (And.intro hgm hb))
              have HC1 := Lib.hid hgmc
              have HC2 := Lib.hid hoc
              have HLL := Lib.hid hL
              clear q1 q2 q3 hgc hgm hb hg hgmc hoc e2 hcell hbO hushape hL
              have hmt := tmod26 i
              have hm26 : i % 26 < 26 := Nat.mod_lt _ (by decide)
              have hlc := letter_at (wr.alloc (.cells #[.int .u8 (97 + ((i % 26 : Nat) : Int))] 5)) wr.heap.size i _ (by omega) (MapKept.heap_alloc wr _).1
              obtain ⟨z, hz⟩ : ∃ z, z = i % 26 := ⟨_, rfl⟩
              rw [← hz] at hmt hm26 hlc
              clear hz
              obtain ⟨w6, hw6⟩ : ∃ w6, w6 = wr.alloc (.cells #[.int .u8 (97 + (z : Int))] 5) := ⟨_, rfl⟩
              have HT6 := Lib.hid (show Turn (fun _ => False) w5 w6 from by rw [hw6]; exact HT.out.alloc _)
              go_wp2
              rw [← hw6]
              clear hw6 hlc hmt hm26
              generalize hM : (⟨#[109, 97, 114, 107]⟩ : ByteArray) ++ letterOf i = M
              have HM := Lib.hid (show markOf i = M from hM)
              have hst := str_eq2 M
              clear hM
              obtain ⟨w7, hw7⟩ : ∃ w7, w7 = w6 := ⟨_, rfl⟩
              rw [hw7.symm] at HT6 ⊢
              clear hw7
              go_loopw [11] (fun kv wr => ∃ t : Nat, kv = .int .i64 t ∧ t ≤ L + 64 ∧ w7 = wr) (fun kv _ => L + 64 - (intOf kv).toNat)
              case atStart => exact ⟨0, rfl, by omega, rfl⟩
              case round =>
                obtain ⟨t, rfl, ht, rfl⟩ := hrel
                have k1 : w7.cell? ⟨gm, i, none⟩ = some (.slice (some ⟨g, 0, none⟩) (L + 64) cp) := (HT6.out.cell (p := ⟨gm, i, none⟩) HK.out.2.1 (fun h => h)).trans HC1.out
                have k2 : w7.cell? ⟨b, o + i, none⟩ = some (.slice Au L cu) := (HT6.out.cell (p := ⟨b, o + i, none⟩) HK.out.2.2 (fun h => h)).trans HC2.out
                by_cases htl : t < L + 64
                · have k3 : w7.cell? ⟨g, t, none⟩ = some (.string M) := ((HT6.out.cell (p := ⟨g, t, none⟩) HK.out.1 (fun h => h)).trans (HGC.out t htl)).trans (by rw [HM.out])
                  by_cases htL : t < L
                  · obtain ⟨gu, rfl, hgu, hguc⟩ := HUC.out t htL
                    have k4 : w7.cell? ⟨gu, t, none⟩ = some (.string M) := ((HT6.out.cell (p := ⟨gu, t, none⟩) hgu (fun h => h)).trans hguc).trans (by rw [HM.out])
                    clear hgu hguc
                    go_wp2
                    exact ⟨⟨t + 1, by go_num, by omega, by first | rfl | trivial⟩, by simp [intOf]; omega⟩
                  · go_wp2
                    exact ⟨⟨t + 1, by go_num, by omega, by first | rfl | trivial⟩, by simp [intOf]; omega⟩
                · obtain rfl : t = L + 64 := by omega
                  go_wp2
                  go_roundw
                  case rel => exact ⟨i + 1, by go_num, by omega, HT6⟩
                  case measure => simp [intOf]; omega
            · obtain rfl : i = j := by omega
              go_wp2
              go_ret
              exact ⟨rfl, HB5.out.trans ((HT.out.below (B := w5.heap.size) (fun _ h => h.elim) (Nat.le_refl _)).mono (by have := HB5.out.size; have := HBB.out; omega))⟩
end Go.Proofs.Ytaghjiffmondjaa
