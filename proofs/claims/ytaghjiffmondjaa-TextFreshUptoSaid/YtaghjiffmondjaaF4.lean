/-
  asked.
-/
import Derived.Test.YtaghjiffmondjaaF3
set_option linter.unusedVariables false
set_option linter.unusedSimpArgs false
namespace Go.Proofs.Ytaghjiffmondjaa
open Go.RowKit


structure AskI (w0 w : World) (tx : Nat → List ByteArray) (lv wv : Value) (j : Nat) (us ws : List Value) (Fl Fw : Nat → Prop) (F : Nat → Nat → Prop) : Prop where
  rl : Row 23 w lv us Fl
  rw' : Row 23 w wv ws Fw
  ul : us.length = j
  wl : ws.length = j
  row : ∀ k, k < j → ∃ u, us[k]? = some u ∧ Row 9 w u ((tx k).map Value.string) (F k)
  wrow : ∀ k, k < j → ∃ u G, ws[k]? = some u ∧ Row 9 w u ((tx k).map Value.string) G ∧ ∀ b, G b → ¬ Fl b ∧ ¬ Fw b ∧ b < w.heap.size
  fb : ∀ k b, F k b → w0.heap.size ≤ b ∧ b < w.heap.size ∧ ¬ Fl b ∧ ¬ Fw b
  fd : ∀ i k b, i ≠ k → F i b → ¬ F k b
  flb : ∀ b, Fl b → w0.heap.size ≤ b ∧ b < w.heap.size ∧ ¬ Fw b
  fwb : ∀ b, Fw b → w0.heap.size ≤ b ∧ b < w.heap.size
  below : Below w0.heap.size w0 w
theorem AskI.start (w : World) (tx : Nat → List ByteArray) : AskI w w tx (.slice none 0 0) (.slice none 0 0) 0 [] [] (fun _ => False) (fun _ => False) (fun _ _ => False) :=
  ⟨Row.nil, Row.nil, rfl, rfl, fun k h => absurd h (Nat.not_lt_zero _), fun k h => absurd h (Nat.not_lt_zero _), fun _ _ h => h.elim, fun _ _ _ _ h => h.elim, fun _ h => h.elim, fun _ h => h.elim, Below.refl _ _⟩
theorem AskI.step {w0 w w1 w2 w3 w4 : World} {tx : Nat → List ByteArray} {lv wv av bv lv' wv' : Value} {j : Nat} {us ws : List Value} {Fl Fw : Nat → Prop} {F : Nat → Nat → Prop} (H : AskI w0 w tx lv wv j us ws Fl Fw F)
    (b1 : Below w.heap.size w w1) (b2 : Below w1.heap.size w1 w2) (ra : Row 9 w2 av ((tx j).map Value.string) (Fresh w w1)) (rb : Row 9 w2 bv ((tx j).map Value.string) (Fresh w1 w2)) (o1 o2 : Obj)
    (hr3 : Row 23 w3 lv' (us ++ [av]) (fun b => Fl b ∨ w2.heap.size + 1 ≤ b)) (ht3 : Turn Fl (w2.alloc o1) w3) (hr4 : Row 23 w4 wv' (ws ++ [bv]) (fun b => Fw b ∨ w3.heap.size + 1 ≤ b)) (ht4 : Turn Fw (w3.alloc o2) w4) :
    AskI w0 w4 tx lv' wv' (j + 1) (us ++ [av]) (ws ++ [bv]) (fun b => (Fl b ∨ w2.heap.size + 1 ≤ b) ∧ b < w3.heap.size) (fun b => (Fw b ∨ w3.heap.size + 1 ≤ b) ∧ b < w4.heap.size) (fun k b => if k = j then Fresh w w1 b else F k b) := by
  have T3 : Turn Fl w2 w3 := ((Turn.refl Fl w2).alloc o1).trans ht3
  have T4 : Turn Fw w3 w4 := ((Turn.refl Fw w3).alloc o2).trans ht4
  have s0 := H.below.size
  have s1 := b1.size
  have s2 := b2.size
  have s3 := T3.size
  have s4 := T4.size
  have hnew : ∀ b, w.heap.size ≤ b → b < w2.heap.size → ¬ ((Fl b ∨ w2.heap.size + 1 ≤ b) ∧ b < w3.heap.size) ∧ ¬ ((Fw b ∨ w3.heap.size + 1 ≤ b) ∧ b < w4.heap.size) := fun b h1 h2 => by
    refine ⟨fun h => h.1.elim (fun h3 => ?_) (fun h3 => by omega), fun h => h.1.elim (fun h3 => ?_) (fun h3 => by omega)⟩
    · have := (H.flb b h3).2.1; omega
    · have := (H.fwb b h3).2; omega
  have hfl : ∀ b, w.heap.size ≤ b → ¬ Fl b ∧ ¬ Fw b := fun b h1 => ⟨fun h => by have := (H.flb b h).2.1; omega, fun h => by have := (H.fwb b h).2; omega⟩
  have carry : ∀ (u : Value) (xs : List Value) (G : Nat → Prop), Row 9 w u xs G → (∀ b, G b → ¬ Fl b ∧ ¬ Fw b) → Row 9 w4 u xs G := fun u xs G h hG => (((h.below b1).below b2).turn T3 fun b h => (hG b h).1).turn T4 fun b h => (hG b h).2
  have carry2 : ∀ (u : Value) (xs : List Value) (G : Nat → Prop), Row 9 w2 u xs G → (∀ b, G b → w.heap.size ≤ b) → Row 9 w4 u xs G := fun u xs G h hG => (h.turn T3 fun b h => (hfl b (hG b h)).1).turn T4 fun b h => (hfl b (hG b h)).2
  refine ⟨(hr3.here.turn T4 fun b h1 h2 => ?_).mono fun b _ h => h, hr4.here.mono fun b _ h => h, by rw [List.length_append, H.ul]; rfl, by rw [List.length_append, H.wl]; rfl, fun k hk => ?_, fun k hk => ?_, fun k b hb => ?_, fun i k b hne hi hk => ?_, fun b hb => ?_, fun b hb => ?_, ?_⟩
  · rcases h1.1 with h3 | h3
    · exact (H.flb b h3).2.2 h2
    · have := (H.fwb b h2).2; omega
  · by_cases he : k = j
    · subst he
      refine ⟨av, by rw [← H.ul]; simp, ?_⟩
      have := carry2 av _ _ ra fun b h => h.1
      simpa using this
    · obtain ⟨u, q1, q2⟩ := H.row k (by omega)
      refine ⟨u, by rw [List.getElem?_append_left (by rw [H.ul]; omega)]; exact q1, ?_⟩
      have := carry u _ _ q2 fun b h => (H.fb k b h).2.2
      simpa [he] using this
  · by_cases he : k = j
    · subst he
      refine ⟨bv, _, by rw [← H.wl]; simp, carry2 bv _ _ rb fun b h => Nat.le_trans s1 h.1, fun b h => ?_⟩
      have h5 := hnew b (Nat.le_trans s1 h.1) h.2
      exact ⟨h5.1, h5.2, by have := h.2; omega⟩
    · obtain ⟨u, G, q1, q2, q3⟩ := H.wrow k (by omega)
      refine ⟨u, G, by rw [List.getElem?_append_left (by rw [H.wl]; omega)]; exact q1, carry u _ _ q2 fun b h => ⟨(q3 b h).1, (q3 b h).2.1⟩, fun b h => ?_⟩
      obtain ⟨h5, h6, h7⟩ := q3 b h
      exact ⟨fun h => h.1.elim h5 (fun h => by omega), fun h => h.1.elim h6 (fun h => by omega), by omega⟩
  · by_cases he : k = j
    · rw [if_pos he] at hb
      have h5 := hnew b hb.1 (by have := hb.2; omega)
      exact ⟨by have := hb.1; omega, by have := hb.2; omega, h5.1, h5.2⟩
    · rw [if_neg he] at hb
      obtain ⟨h4, h5, h6, h7⟩ := H.fb k b hb
      exact ⟨h4, by omega, fun h => h.1.elim h6 (fun h => by omega), fun h => h.1.elim h7 (fun h => by omega)⟩
  · by_cases h5 : i = j <;> by_cases h6 : k = j
    · omega
    · rw [if_pos h5] at hi; rw [if_neg h6] at hk
      have := (H.fb k b hk).2.1; have := hi.1; omega
    · rw [if_neg h5] at hi; rw [if_pos h6] at hk
      have := (H.fb i b hi).2.1; have := hk.1; omega
    · rw [if_neg h5] at hi; rw [if_neg h6] at hk
      exact H.fd i k b hne hi hk
  · refine ⟨hb.1.elim (fun h => (H.flb b h).1) (fun h => by omega), by have := hb.2; omega, fun h2 => ?_⟩
    rcases h2.1 with h3 | h3
    · rcases hb.1 with h4 | h4
      · exact (H.flb b h4).2.2 h3
      · have := (H.fwb b h3).2; omega
    · have := hb.2; omega
  · exact ⟨hb.1.elim (fun h => (H.fwb b h).1) (fun h => by omega), hb.2⟩
  · refine ((H.below.trans (b1.mono s0)).trans (b2.mono (by omega))).trans ?_
    exact (T3.below (B := w0.heap.size) (fun b h => (H.flb b h).1) (by omega)).trans (T4.below (fun b h => (H.fwb b h).1) (by omega))
def askT (s : ByteArray) (i : Nat) : ByteArray := if i = 2 ∨ i = 3 then ⟨#[120, 10, 121, 10]⟩ else s
def askU (l : ByteArray) (i : Nat) : ByteArray := if i = 2 ∨ i = 3 then ⟨#[97, 32, 98, 32, 99]⟩ else l
def askX (s l : ByteArray) (k : Nat) : List ByteArray := if k % 2 = 0 then (linesOf (askT s (k / 2))).1 else (wordsOf (askU l (k / 2))).1
theorem askX_even (s l : ByteArray) (i : Nat) : askX s l (2 * i) = (linesOf (askT s i)).1 := by
  unfold askX
  rw [if_pos (by omega), show 2 * i / 2 = i by omega]
theorem askX_odd (s l : ByteArray) (i : Nat) : askX s l (2 * i + 1) = (wordsOf (askU l i)).1 := by
  unfold askX
  rw [if_neg (by omega), show (2 * i + 1) / 2 = i by omega]
theorem askX_le (s l : ByteArray) (hs : s.size ≤ 1048576) (hl : l.size ≤ 1048576) (k : Nat) : (askX s l k).length ≤ 1000000000 := by
  unfold askX
  split
  · have := lines_le (askT s (k / 2))
    have h2 : (askT s (k / 2)).size ≤ 1048576 := by unfold askT; split <;> first | exact hs | decide
    omega
  · have := words_le (askU l (k / 2))
    have h2 : (askU l (k / 2)).size ≤ 1048576 := by unfold askU; split <;> first | exact hl | decide
    omega
set_option maxHeartbeats 8000000 in
set_option maxRecDepth 100000 in
theorem asked_calls (s line : ByteArray) (hs : s.size ≤ 1048576) (hl : line.size ≤ 1048576) (w : World) :
    Calls Try.prog 39 #[.string s, .string line] w fun r w' => r = .returned (.bool true) ∧ Below w.heap.size w w' := by
  obtain ⟨i23, hi23, hy0, hy1, hy2⟩ := info_parts info23'
  have HS := Lib.hid hs
  have HL := Lib.hid hl
  clear hs hl
  have HI0 := Lib.hid (AskI.start w (askX s line))
  go_enter Try.func39, Try.ntmps39
  go_wp2
  go_loopw [5, 6, 7] (fun lv wv iv wr => ∃ (i : Nat) (us ws : List Value) (Fl Fw : Nat → Prop) (F : Nat → Nat → Prop), iv = .int .i64 i ∧ i ≤ 5 ∧ Hid (AskI w wr (askX s line) lv wv (2 * i) us ws Fl Fw F)) (fun _ _ iv _ => 5 - (intOf iv).toNat)
  case atStart => exact ⟨0, [], [], _, _, _, rfl, by omega, HI0⟩
  case round =>
    clear HI0
    obtain ⟨i, us, ws, Fl, Fw, F, rfl, hi, HI⟩ := hrel
    by_cases hlt : i < 5
    · have HE := Lib.hid (askX_even s line i)
      have HO := Lib.hid (askX_odd s line i)
      by_cases h2 : i = 2
      · subst h2
        have HTT := Lib.hid (show askT s 2 = ⟨#[120, 10, 121, 10]⟩ from rfl)
        have HUU := Lib.hid (show askU line 2 = ⟨#[97, 32, 98, 32, 99]⟩ from rfl)
        go_wp2_with fail
        refine (lines_row ⟨#[120, 10, 121, 10]⟩ (by decide) _).mono ?_
        rintro x wp1 ⟨avp, rfl, hra, hb1⟩
        obtain ⟨Aap, cap, nap, hsa⟩ : ∃ A c n, avp = .slice A n c := by obtain ⟨A, c, h⟩ := hra.shape; exact ⟨A, c, _, h⟩
        subst hsa
        have HB1p := Lib.hid hb1
        have HRAp := Lib.hid hra
        clear hra hb1
        go_wp2_with fail
        refine (rlines_row ⟨#[120, 10, 121, 10]⟩ (by decide) _).mono ?_
        rintro x wp2 ⟨bvp, rfl, hrb, hb2⟩
        obtain ⟨Abp, cbp, nbp, hsb⟩ : ∃ A c n, bvp = .slice A n c := by obtain ⟨A, c, h⟩ := hrb.shape; exact ⟨A, c, _, h⟩
        subst hsb
        have HB2p := Lib.hid hb2
        have HRBp := Lib.hid hrb
        have HRA2p := Lib.hid (HRAp.out.below hb2)
        clear hrb hb2
        have HR1p := Lib.hid ((HI.out.rl.below HB1p.out).below HB2p.out)
        have HR2p := Lib.hid ((HI.out.rw'.below HB1p.out).below HB2p.out)
        have HLUp := Lib.hid (And.intro HI.out.ul HI.out.wl)
        go_wp2_with (at_builtin; go_must (refine wpList_append_row (F := Fl) (news := [Value.slice Aap nap cap]) rfl (.tmp 42) (.tmp 44) rfl i23 (.slice none 0 0) 24 Try.underlying65 hi23 hy0 hy1 hy2 rfl rfl (HR1p.out.alloc _) ⟨wp2.heap.size, 0, none⟩ 1 1 rfl rfl (World.news_of_block (MapKept.heap_alloc _ _).1) (by intro u hu; simp at hu; subst hu; rfl) (by decide) (by rw [HLUp.out.1]; unfold maxLen; omega) (by rw [HLUp.out.1]; omega) ?_))
        intro lvp wp3 hr3 ht3 hc3
        have HR3p := Lib.hid hr3
        have HT3p := Lib.hid ht3
        clear hr3 ht3 hc3
        have HR4p := Lib.hid ((HR2p.out.turn (((Turn.refl Fl wp2).alloc _).trans HT3p.out) fun b h1 h2 => (HI.out.flb b h2).2.2 h1))
        go_wp2_with (at_builtin; go_must (refine wpList_append_row (F := Fw) (news := [Value.slice Abp nbp cbp]) rfl (.tmp 46) (.tmp 48) rfl i23 (.slice none 0 0) 24 Try.underlying65 hi23 hy0 hy1 hy2 rfl rfl (HR4p.out.alloc _) ⟨wp3.heap.size, 0, none⟩ 1 1 rfl rfl (World.news_of_block (MapKept.heap_alloc _ _).1) (by intro u hu; simp at hu; subst hu; rfl) (by decide) (by rw [HLUp.out.2]; unfold maxLen; omega) (by rw [HLUp.out.2]; omega) ?_))
        intro wvp wp4 hr4 ht4 hc4
        have HNp := Lib.hid (HI.out.step HB1p.out HB2p.out (by rw [HE.out, HTT.out]; exact HRA2p.out) (by rw [HE.out, HTT.out]; exact HRBp.out) _ _ HR3p.out HT3p.out hr4 ht4)
        clear hr4 ht4 hc4 HI HB1p HB2p HRAp HRBp HRA2p HR1p HR2p HR3p HT3p HR4p HLUp
        have HI := HNp
        clear HNp
        obtain ⟨Fl2, hFl2⟩ : ∃ f, f = (fun b => (Fl b ∨ wp2.heap.size + 1 ≤ b) ∧ b < wp3.heap.size) := ⟨_, rfl⟩
        obtain ⟨Fw2, hFw2⟩ : ∃ f, f = (fun b => (Fw b ∨ wp3.heap.size + 1 ≤ b) ∧ b < wp4.heap.size) := ⟨_, rfl⟩
        obtain ⟨us2, hus2⟩ : ∃ u, u = us ++ [Value.slice Aap nap cap] := ⟨_, rfl⟩
        obtain ⟨ws2, hws2⟩ : ∃ u, u = ws ++ [Value.slice Abp nbp cbp] := ⟨_, rfl⟩
        rw [← hFl2, ← hFw2, ← hus2, ← hws2] at HI
        clear hFl2 hFw2 hus2 hws2
        go_wp2_with fail
        refine (words_row ⟨#[97, 32, 98, 32, 99]⟩ (by decide) _).mono ?_
        rintro x wq1 ⟨avq, rfl, hra, hb1⟩
        obtain ⟨Aaq, caq, naq, hsa⟩ : ∃ A c n, avq = .slice A n c := by obtain ⟨A, c, h⟩ := hra.shape; exact ⟨A, c, _, h⟩
        subst hsa
        have HB1q := Lib.hid hb1
        have HRAq := Lib.hid hra
        clear hra hb1
        go_wp2_with fail
        refine (rwords_row ⟨#[97, 32, 98, 32, 99]⟩ (by decide) _).mono ?_
        rintro x wq2 ⟨bvq, rfl, hrb, hb2⟩
        obtain ⟨Abq, cbq, nbq, hsb⟩ : ∃ A c n, bvq = .slice A n c := by obtain ⟨A, c, h⟩ := hrb.shape; exact ⟨A, c, _, h⟩
        subst hsb
        have HB2q := Lib.hid hb2
        have HRBq := Lib.hid hrb
        have HRA2q := Lib.hid (HRAq.out.below hb2)
        clear hrb hb2
        have HR1q := Lib.hid ((HI.out.rl.below HB1q.out).below HB2q.out)
        have HR2q := Lib.hid ((HI.out.rw'.below HB1q.out).below HB2q.out)
        have HLUq := Lib.hid (And.intro HI.out.ul HI.out.wl)
        go_wp2_with (at_builtin; go_must (refine wpList_append_row (F := Fl2) (news := [Value.slice Aaq naq caq]) rfl (.tmp 60) (.tmp 62) rfl i23 (.slice none 0 0) 24 Try.underlying65 hi23 hy0 hy1 hy2 rfl rfl (HR1q.out.alloc _) ⟨wq2.heap.size, 0, none⟩ 1 1 rfl rfl (World.news_of_block (MapKept.heap_alloc _ _).1) (by intro u hu; simp at hu; subst hu; rfl) (by decide) (by rw [HLUq.out.1]; unfold maxLen; omega) (by rw [HLUq.out.1]; omega) ?_))
        intro lvq wq3 hr3 ht3 hc3
        have HR3q := Lib.hid hr3
        have HT3q := Lib.hid ht3
        clear hr3 ht3 hc3
        have HR4q := Lib.hid ((HR2q.out.turn (((Turn.refl Fl2 wq2).alloc _).trans HT3q.out) fun b h1 h2 => (HI.out.flb b h2).2.2 h1))
        go_wp2_with (at_builtin; go_must (refine wpList_append_row (F := Fw2) (news := [Value.slice Abq nbq cbq]) rfl (.tmp 64) (.tmp 66) rfl i23 (.slice none 0 0) 24 Try.underlying65 hi23 hy0 hy1 hy2 rfl rfl (HR4q.out.alloc _) ⟨wq3.heap.size, 0, none⟩ 1 1 rfl rfl (World.news_of_block (MapKept.heap_alloc _ _).1) (by intro u hu; simp at hu; subst hu; rfl) (by decide) (by rw [HLUq.out.2]; unfold maxLen; omega) (by rw [HLUq.out.2]; omega) ?_))
        intro wvq wq4 hr4 ht4 hc4
        have HNq := Lib.hid (HI.out.step HB1q.out HB2q.out (by rw [HO.out, HUU.out]; exact HRA2q.out) (by rw [HO.out, HUU.out]; exact HRBq.out) _ _ HR3q.out HT3q.out hr4 ht4)
        clear hr4 ht4 hc4 HI HB1q HB2q HRAq HRBq HRA2q HR1q HR2q HR3q HT3q HR4q HLUq
        have HI := HNq
        clear HNq
        go_wp2
        go_roundw
        case rel => exact ⟨2 + 1, _, _, _, _, _, by go_num, by omega, HI⟩
        case measure => simp [intOf]
      by_cases h3 : i = 3
      · subst h3
        clear h2
        have HTT := Lib.hid (show askT s 3 = ⟨#[120, 10, 121, 10]⟩ from rfl)
        have HUU := Lib.hid (show askU line 3 = ⟨#[97, 32, 98, 32, 99]⟩ from rfl)
        go_wp2_with fail
        refine (lines_row ⟨#[120, 10, 121, 10]⟩ (by decide) _).mono ?_
        rintro x wp1 ⟨avp, rfl, hra, hb1⟩
        obtain ⟨Aap, cap, nap, hsa⟩ : ∃ A c n, avp = .slice A n c := by obtain ⟨A, c, h⟩ := hra.shape; exact ⟨A, c, _, h⟩
        subst hsa
        have HB1p := Lib.hid hb1
        have HRAp := Lib.hid hra
        clear hra hb1
        go_wp2_with fail
        refine (rlines_row ⟨#[120, 10, 121, 10]⟩ (by decide) _).mono ?_
        rintro x wp2 ⟨bvp, rfl, hrb, hb2⟩
        obtain ⟨Abp, cbp, nbp, hsb⟩ : ∃ A c n, bvp = .slice A n c := by obtain ⟨A, c, h⟩ := hrb.shape; exact ⟨A, c, _, h⟩
        subst hsb
        have HB2p := Lib.hid hb2
        have HRBp := Lib.hid hrb
        have HRA2p := Lib.hid (HRAp.out.below hb2)
        clear hrb hb2
        have HR1p := Lib.hid ((HI.out.rl.below HB1p.out).below HB2p.out)
        have HR2p := Lib.hid ((HI.out.rw'.below HB1p.out).below HB2p.out)
        have HLUp := Lib.hid (And.intro HI.out.ul HI.out.wl)
        go_wp2_with (at_builtin; go_must (refine wpList_append_row (F := Fl) (news := [Value.slice Aap nap cap]) rfl (.tmp 42) (.tmp 44) rfl i23 (.slice none 0 0) 24 Try.underlying65 hi23 hy0 hy1 hy2 rfl rfl (HR1p.out.alloc _) ⟨wp2.heap.size, 0, none⟩ 1 1 rfl rfl (World.news_of_block (MapKept.heap_alloc _ _).1) (by intro u hu; simp at hu; subst hu; rfl) (by decide) (by rw [HLUp.out.1]; unfold maxLen; omega) (by rw [HLUp.out.1]; omega) ?_))
        intro lvp wp3 hr3 ht3 hc3
        have HR3p := Lib.hid hr3
        have HT3p := Lib.hid ht3
        clear hr3 ht3 hc3
        have HR4p := Lib.hid ((HR2p.out.turn (((Turn.refl Fl wp2).alloc _).trans HT3p.out) fun b h1 h2 => (HI.out.flb b h2).2.2 h1))
        go_wp2_with (at_builtin; go_must (refine wpList_append_row (F := Fw) (news := [Value.slice Abp nbp cbp]) rfl (.tmp 46) (.tmp 48) rfl i23 (.slice none 0 0) 24 Try.underlying65 hi23 hy0 hy1 hy2 rfl rfl (HR4p.out.alloc _) ⟨wp3.heap.size, 0, none⟩ 1 1 rfl rfl (World.news_of_block (MapKept.heap_alloc _ _).1) (by intro u hu; simp at hu; subst hu; rfl) (by decide) (by rw [HLUp.out.2]; unfold maxLen; omega) (by rw [HLUp.out.2]; omega) ?_))
        intro wvp wp4 hr4 ht4 hc4
        have HNp := Lib.hid (HI.out.step HB1p.out HB2p.out (by rw [HE.out, HTT.out]; exact HRA2p.out) (by rw [HE.out, HTT.out]; exact HRBp.out) _ _ HR3p.out HT3p.out hr4 ht4)
        clear hr4 ht4 hc4 HI HB1p HB2p HRAp HRBp HRA2p HR1p HR2p HR3p HT3p HR4p HLUp
        have HI := HNp
        clear HNp
        obtain ⟨Fl2, hFl2⟩ : ∃ f, f = (fun b => (Fl b ∨ wp2.heap.size + 1 ≤ b) ∧ b < wp3.heap.size) := ⟨_, rfl⟩
        obtain ⟨Fw2, hFw2⟩ : ∃ f, f = (fun b => (Fw b ∨ wp3.heap.size + 1 ≤ b) ∧ b < wp4.heap.size) := ⟨_, rfl⟩
        obtain ⟨us2, hus2⟩ : ∃ u, u = us ++ [Value.slice Aap nap cap] := ⟨_, rfl⟩
        obtain ⟨ws2, hws2⟩ : ∃ u, u = ws ++ [Value.slice Abp nbp cbp] := ⟨_, rfl⟩
        rw [← hFl2, ← hFw2, ← hus2, ← hws2] at HI
        clear hFl2 hFw2 hus2 hws2
        go_wp2_with fail
        refine (words_row ⟨#[97, 32, 98, 32, 99]⟩ (by decide) _).mono ?_
        rintro x wq1 ⟨avq, rfl, hra, hb1⟩
        obtain ⟨Aaq, caq, naq, hsa⟩ : ∃ A c n, avq = .slice A n c := by obtain ⟨A, c, h⟩ := hra.shape; exact ⟨A, c, _, h⟩
        subst hsa
        have HB1q := Lib.hid hb1
        have HRAq := Lib.hid hra
        clear hra hb1
        go_wp2_with fail
        refine (rwords_row ⟨#[97, 32, 98, 32, 99]⟩ (by decide) _).mono ?_
        rintro x wq2 ⟨bvq, rfl, hrb, hb2⟩
        obtain ⟨Abq, cbq, nbq, hsb⟩ : ∃ A c n, bvq = .slice A n c := by obtain ⟨A, c, h⟩ := hrb.shape; exact ⟨A, c, _, h⟩
        subst hsb
        have HB2q := Lib.hid hb2
        have HRBq := Lib.hid hrb
        have HRA2q := Lib.hid (HRAq.out.below hb2)
        clear hrb hb2
        have HR1q := Lib.hid ((HI.out.rl.below HB1q.out).below HB2q.out)
        have HR2q := Lib.hid ((HI.out.rw'.below HB1q.out).below HB2q.out)
        have HLUq := Lib.hid (And.intro HI.out.ul HI.out.wl)
        go_wp2_with (at_builtin; go_must (refine wpList_append_row (F := Fl2) (news := [Value.slice Aaq naq caq]) rfl (.tmp 60) (.tmp 62) rfl i23 (.slice none 0 0) 24 Try.underlying65 hi23 hy0 hy1 hy2 rfl rfl (HR1q.out.alloc _) ⟨wq2.heap.size, 0, none⟩ 1 1 rfl rfl (World.news_of_block (MapKept.heap_alloc _ _).1) (by intro u hu; simp at hu; subst hu; rfl) (by decide) (by rw [HLUq.out.1]; unfold maxLen; omega) (by rw [HLUq.out.1]; omega) ?_))
        intro lvq wq3 hr3 ht3 hc3
        have HR3q := Lib.hid hr3
        have HT3q := Lib.hid ht3
        clear hr3 ht3 hc3
        have HR4q := Lib.hid ((HR2q.out.turn (((Turn.refl Fl2 wq2).alloc _).trans HT3q.out) fun b h1 h2 => (HI.out.flb b h2).2.2 h1))
        go_wp2_with (at_builtin; go_must (refine wpList_append_row (F := Fw2) (news := [Value.slice Abq nbq cbq]) rfl (.tmp 64) (.tmp 66) rfl i23 (.slice none 0 0) 24 Try.underlying65 hi23 hy0 hy1 hy2 rfl rfl (HR4q.out.alloc _) ⟨wq3.heap.size, 0, none⟩ 1 1 rfl rfl (World.news_of_block (MapKept.heap_alloc _ _).1) (by intro u hu; simp at hu; subst hu; rfl) (by decide) (by rw [HLUq.out.2]; unfold maxLen; omega) (by rw [HLUq.out.2]; omega) ?_))
        intro wvq wq4 hr4 ht4 hc4
        have HNq := Lib.hid (HI.out.step HB1q.out HB2q.out (by rw [HO.out, HUU.out]; exact HRA2q.out) (by rw [HO.out, HUU.out]; exact HRBq.out) _ _ HR3q.out HT3q.out hr4 ht4)
        clear hr4 ht4 hc4 HI HB1q HB2q HRAq HRBq HRA2q HR1q HR2q HR3q HT3q HR4q HLUq
        have HI := HNq
        clear HNq
        go_wp2
        go_roundw
        case rel => exact ⟨3 + 1, _, _, _, _, _, by go_num, by omega, HI⟩
        case measure => simp [intOf]
      · have HTT := Lib.hid (show askT s i = s by unfold askT; rw [if_neg (by omega)])
        have HUU := Lib.hid (show askU line i = line by unfold askU; rw [if_neg (by omega)])
        have t2 : ((i : Int) == 2) = false := by rw [beq_eq_false_iff_ne]; omega
        have t3 : ((i : Int) == 3) = false := by rw [beq_eq_false_iff_ne]; omega
        clear h2 h3
        go_wp2_with fail
        refine (lines_row s HS.out _).mono ?_
        rintro x wp1 ⟨avp, rfl, hra, hb1⟩
        obtain ⟨Aap, cap, nap, hsa⟩ : ∃ A c n, avp = .slice A n c := by obtain ⟨A, c, h⟩ := hra.shape; exact ⟨A, c, _, h⟩
        subst hsa
        have HB1p := Lib.hid hb1
        have HRAp := Lib.hid hra
        clear hra hb1
        go_wp2_with fail
        refine (rlines_row s HS.out _).mono ?_
        rintro x wp2 ⟨bvp, rfl, hrb, hb2⟩
        obtain ⟨Abp, cbp, nbp, hsb⟩ : ∃ A c n, bvp = .slice A n c := by obtain ⟨A, c, h⟩ := hrb.shape; exact ⟨A, c, _, h⟩
        subst hsb
        have HB2p := Lib.hid hb2
        have HRBp := Lib.hid hrb
        have HRA2p := Lib.hid (HRAp.out.below hb2)
        clear hrb hb2
        have HR1p := Lib.hid ((HI.out.rl.below HB1p.out).below HB2p.out)
        have HR2p := Lib.hid ((HI.out.rw'.below HB1p.out).below HB2p.out)
        have HLUp := Lib.hid (And.intro HI.out.ul HI.out.wl)
        go_wp2_with (at_builtin; go_must (refine wpList_append_row (F := Fl) (news := [Value.slice Aap nap cap]) rfl (.tmp 42) (.tmp 44) rfl i23 (.slice none 0 0) 24 Try.underlying65 hi23 hy0 hy1 hy2 rfl rfl (HR1p.out.alloc _) ⟨wp2.heap.size, 0, none⟩ 1 1 rfl rfl (World.news_of_block (MapKept.heap_alloc _ _).1) (by intro u hu; simp at hu; subst hu; rfl) (by decide) (by rw [HLUp.out.1]; unfold maxLen; omega) (by rw [HLUp.out.1]; omega) ?_))
        intro lvp wp3 hr3 ht3 hc3
        have HR3p := Lib.hid hr3
        have HT3p := Lib.hid ht3
        clear hr3 ht3 hc3
        have HR4p := Lib.hid ((HR2p.out.turn (((Turn.refl Fl wp2).alloc _).trans HT3p.out) fun b h1 h2 => (HI.out.flb b h2).2.2 h1))
        go_wp2_with (at_builtin; go_must (refine wpList_append_row (F := Fw) (news := [Value.slice Abp nbp cbp]) rfl (.tmp 46) (.tmp 48) rfl i23 (.slice none 0 0) 24 Try.underlying65 hi23 hy0 hy1 hy2 rfl rfl (HR4p.out.alloc _) ⟨wp3.heap.size, 0, none⟩ 1 1 rfl rfl (World.news_of_block (MapKept.heap_alloc _ _).1) (by intro u hu; simp at hu; subst hu; rfl) (by decide) (by rw [HLUp.out.2]; unfold maxLen; omega) (by rw [HLUp.out.2]; omega) ?_))
        intro wvp wp4 hr4 ht4 hc4
        have HNp := Lib.hid (HI.out.step HB1p.out HB2p.out (by rw [HE.out, HTT.out]; exact HRA2p.out) (by rw [HE.out, HTT.out]; exact HRBp.out) _ _ HR3p.out HT3p.out hr4 ht4)
        clear hr4 ht4 hc4 HI HB1p HB2p HRAp HRBp HRA2p HR1p HR2p HR3p HT3p HR4p HLUp
        have HI := HNp
        clear HNp
        obtain ⟨Fl2, hFl2⟩ : ∃ f, f = (fun b => (Fl b ∨ wp2.heap.size + 1 ≤ b) ∧ b < wp3.heap.size) := ⟨_, rfl⟩
        obtain ⟨Fw2, hFw2⟩ : ∃ f, f = (fun b => (Fw b ∨ wp3.heap.size + 1 ≤ b) ∧ b < wp4.heap.size) := ⟨_, rfl⟩
        obtain ⟨us2, hus2⟩ : ∃ u, u = us ++ [Value.slice Aap nap cap] := ⟨_, rfl⟩
        obtain ⟨ws2, hws2⟩ : ∃ u, u = ws ++ [Value.slice Abp nbp cbp] := ⟨_, rfl⟩
        rw [← hFl2, ← hFw2, ← hus2, ← hws2] at HI
        clear hFl2 hFw2 hus2 hws2
        go_wp2_with fail
        refine (words_row line HL.out _).mono ?_
        rintro x wq1 ⟨avq, rfl, hra, hb1⟩
        obtain ⟨Aaq, caq, naq, hsa⟩ : ∃ A c n, avq = .slice A n c := by obtain ⟨A, c, h⟩ := hra.shape; exact ⟨A, c, _, h⟩
        subst hsa
        have HB1q := Lib.hid hb1
        have HRAq := Lib.hid hra
        clear hra hb1
        go_wp2_with fail
        refine (rwords_row line HL.out _).mono ?_
        rintro x wq2 ⟨bvq, rfl, hrb, hb2⟩
        obtain ⟨Abq, cbq, nbq, hsb⟩ : ∃ A c n, bvq = .slice A n c := by obtain ⟨A, c, h⟩ := hrb.shape; exact ⟨A, c, _, h⟩
        subst hsb
        have HB2q := Lib.hid hb2
        have HRBq := Lib.hid hrb
        have HRA2q := Lib.hid (HRAq.out.below hb2)
        clear hrb hb2
        have HR1q := Lib.hid ((HI.out.rl.below HB1q.out).below HB2q.out)
        have HR2q := Lib.hid ((HI.out.rw'.below HB1q.out).below HB2q.out)
        have HLUq := Lib.hid (And.intro HI.out.ul HI.out.wl)
        go_wp2_with (at_builtin; go_must (refine wpList_append_row (F := Fl2) (news := [Value.slice Aaq naq caq]) rfl (.tmp 60) (.tmp 62) rfl i23 (.slice none 0 0) 24 Try.underlying65 hi23 hy0 hy1 hy2 rfl rfl (HR1q.out.alloc _) ⟨wq2.heap.size, 0, none⟩ 1 1 rfl rfl (World.news_of_block (MapKept.heap_alloc _ _).1) (by intro u hu; simp at hu; subst hu; rfl) (by decide) (by rw [HLUq.out.1]; unfold maxLen; omega) (by rw [HLUq.out.1]; omega) ?_))
        intro lvq wq3 hr3 ht3 hc3
        have HR3q := Lib.hid hr3
        have HT3q := Lib.hid ht3
        clear hr3 ht3 hc3
        have HR4q := Lib.hid ((HR2q.out.turn (((Turn.refl Fl2 wq2).alloc _).trans HT3q.out) fun b h1 h2 => (HI.out.flb b h2).2.2 h1))
        go_wp2_with (at_builtin; go_must (refine wpList_append_row (F := Fw2) (news := [Value.slice Abq nbq cbq]) rfl (.tmp 64) (.tmp 66) rfl i23 (.slice none 0 0) 24 Try.underlying65 hi23 hy0 hy1 hy2 rfl rfl (HR4q.out.alloc _) ⟨wq3.heap.size, 0, none⟩ 1 1 rfl rfl (World.news_of_block (MapKept.heap_alloc _ _).1) (by intro u hu; simp at hu; subst hu; rfl) (by decide) (by rw [HLUq.out.2]; unfold maxLen; omega) (by rw [HLUq.out.2]; omega) ?_))
        intro wvq wq4 hr4 ht4 hc4
        have HNq := Lib.hid (HI.out.step HB1q.out HB2q.out (by rw [HO.out, HUU.out]; exact HRA2q.out) (by rw [HO.out, HUU.out]; exact HRBq.out) _ _ HR3q.out HT3q.out hr4 ht4)
        clear hr4 ht4 hc4 HI HB1q HB2q HRAq HRBq HRA2q HR1q HR2q HR3q HT3q HR4q HLUq
        have HI := HNq
        clear HNq
        go_wp2
        go_roundw
        case rel => exact ⟨i + 1, _, _, _, _, _, by go_num, by omega, HI⟩
        case measure => simp [intOf]; omega
    · have h10 : us.length = 10 := by have := HI.out.ul; omega
      have h11 : ws.length = 10 := by have := HI.out.wl; omega
      have h12 : 2 * i = 10 := by omega
      obtain ⟨A, cp, hsh⟩ := HI.out.rl.shape
      rw [h10] at hsh
      obtain ⟨A2, cp2, hsh2⟩ := HI.out.rw'.shape
      rw [h11] at hsh2
      subst hsh hsh2
      obtain ⟨wz, hwz⟩ : ∃ wz, wz = wr := ⟨_, rfl⟩
      have HIz := Lib.hid (show AskI w wz (askX s line) (.slice A 10 cp) (.slice A2 10 cp2) 10 us ws Fl Fw F from hwz ▸ h12 ▸ HI.out)
      clear h10 h11 h12
      have hBz : Hid (Below wz.heap.size wz wr) := Lib.hid (hwz ▸ Below.refl _ _)
      clear hwz HI
      go_wp2
      go_loopw [18] (fun kv wr => ∃ k : Nat, kv = .int .i64 k ∧ k ≤ 10 ∧ Hid (Below wz.heap.size wz wr)) (fun kv _ => 10 - (intOf kv).toNat)
      case atStart => exact ⟨0, rfl, by omega, hBz⟩
      case round =>
        clear hBz
        obtain ⟨k, rfl, hk, HBz⟩ := hrel
        by_cases hlk : k < 10
        · obtain ⟨u, q1, q2⟩ := HIz.out.row k hlk
          obtain ⟨u2, G, q3, q4, _⟩ := HIz.out.wrow k hlk
          have hv1 : ∃ g, A = some ⟨g, 0, none⟩ ∧ wr.cell? ⟨g, k, none⟩ = some u := by
            have hul := HIz.out.ul
            rcases HIz.out.rl.view with ⟨_, h0⟩ | ⟨g, cm, h1, _, h3, _, h5⟩
            · rw [h0] at hul; simp at hul
            · injection h1 with h1 _ _
              have h6 := h5 k (by omega)
              rw [List.getElem?_eq_getElem (by omega)] at q1
              rw [q1] at h6
              exact ⟨g, h1, (HBz.out.cell (p := ⟨g, k, none⟩) h3).trans h6⟩
          have hv2 : ∃ g, A2 = some ⟨g, 0, none⟩ ∧ wr.cell? ⟨g, k, none⟩ = some u2 := by
            have hwl := HIz.out.wl
            rcases HIz.out.rw'.view with ⟨_, h0⟩ | ⟨g, cm, h1, _, h3, _, h5⟩
            · rw [h0] at hwl; simp at hwl
            · injection h1 with h1 _ _
              have h6 := h5 k (by omega)
              rw [List.getElem?_eq_getElem (by omega)] at q3
              rw [q3] at h6
              exact ⟨g, h1, (HBz.out.cell (p := ⟨g, k, none⟩) h3).trans h6⟩
          obtain ⟨g1, rfl, e1⟩ := hv1
          obtain ⟨g2, rfl, e2⟩ := hv2
          obtain ⟨Au, cu, hu⟩ := q2.shape
          obtain ⟨Av, cv, hv⟩ := q4.shape
          obtain ⟨n1, hn1⟩ : ∃ n1, n1 = (List.map Value.string (askX s line k)).length := ⟨_, rfl⟩
          rw [← hn1] at hu hv
          subst hu hv
          have HQ2 := Lib.hid (q2.below (w' := wr) (HBz.out.mono (Nat.le_refl _)))
          have HQ4 := Lib.hid (q4.below (w' := wr) (HBz.out.mono (Nat.le_refl _)))
          clear q1 q2 q3 q4 hn1
          go_wp2
          refine wp_region_ord (fun w' => w'.cell? ⟨g1, k, none⟩ = some (.slice Au n1 cu) ∧ w'.cell? ⟨g2, k, none⟩ = some (.slice Av n1 cv)) [(0, false), (1, false), (2, false), (3, false), (4, false), (5, false), (6, false), (7, false), (8, true), (9, true)] (by kernel_rfl) (by kernel_rfl) (fun _ _ d _ _ h => by cases d <;> exact h) ⟨e1, e2⟩ ?_
          iterate 8
            refine heldL ?_ ?_ (by rfl) (by rfl) (fun w' s1 => ?_) ?_ ?_
            rotate_left 2
            focus (obtain ⟨s1, s2⟩ := s1; go_simp; exact rfl)
            focus (go_simp; exact rfl)
          refine actL (by kernel_rfl) (by rfl) (by rfl) (fun K hK => ?_)
          go_wp2_with fail
          refine (same_rows (w := wr.drew) (askX s line k) (askX_le s line HS.out HL.out k) (HQ2.out.keep fun _ _ _ => rfl) (HQ4.out.keep fun _ _ _ => rfl)).mono ?_
          rintro x wx ⟨rfl, hb⟩
          have HBx := Lib.hid (HBz.out.trans ((show Below wr.heap.size wr wx from ⟨hb.os, hb.tape, hb.output, hb.size, hb.block⟩).mono HBz.out.size))
          clear hb
          refine hK _ _ ?_
          clear hK
          refine actL (by kernel_rfl) (by rfl) (by rfl) (fun K hK => ?_)
          go_wp2_with fail
          refine nilL ?_
          go_wp2
          go_roundw
          case rel => exact ⟨k + 1, by go_num, by omega, HBx⟩
          case measure => simp [intOf]; omega
        · obtain rfl : k = 10 := by omega
          have HOU := Lib.hid (show ∃ uf : Nat → Value, Many wr 10 uf (askX s line) F ∧ Out wr (.slice A 10 cp) 10 uf Fl from by
            refine ⟨fun k => us.getD k undef, ⟨fun k hk => ?_⟩, ?_⟩
            · obtain ⟨u, q1, q2⟩ := HIz.out.row k hk
              have : us.getD k undef = u := by simp [List.getD, q1]
              rw [this]
              exact q2.below HBz.out
            · have hul := HIz.out.ul
              rcases HIz.out.rl.view with ⟨_, h0⟩ | ⟨g, cm, h1, h2, h3, _, h5⟩
              · rw [h0] at hul; simp at hul
              · injection h1 with h1 _ h1'
                refine ⟨_, _, rfl, fun _ => ⟨g, 0, h1, Nat.lt_of_lt_of_le h3 HBz.out.size, h2, fun i hi => ?_⟩⟩
                rw [Nat.zero_add, HBz.out.cell (p := ⟨g, i, none⟩) h3, h5 i (by omega)]
                simp [List.getD, List.getElem?_eq_getElem (show i < us.length by omega)])
          obtain ⟨uf, o1, o2⟩ := HOU.out
          have O1 := Lib.hid o1
          have O2 := Lib.hid o2
          clear o1 o2 HOU
          have HWB := Lib.hid (show Below w.heap.size w wr from HIz.out.below.trans (HBz.out.mono HIz.out.below.size))
          go_wp2_with fail
          refine (apart_calls 10 uf (askX s line) _ Fl F _ w.heap.size O2.out (by decide) (askX_le s line HS.out HL.out) O1.out HIz.out.fd (fun k b h h1 => (HIz.out.fb k b h1).2.2.1 h) (fun k b h => ⟨(HIz.out.fb k b h).1, Nat.lt_of_lt_of_le (HIz.out.fb k b h).2.1 HBz.out.size⟩) (fun b h => Nat.lt_of_lt_of_le (HIz.out.flb b h).2.1 HBz.out.size) HWB.out.size).mono ?_
          rintro x w11 ⟨rfl, hb⟩
          have HBE := Lib.hid (HWB.out.trans hb)
          clear hb
          go_wp2
          go_ret
          exact ⟨rfl, HBE.out⟩
end Go.Proofs.Ytaghjiffmondjaa
