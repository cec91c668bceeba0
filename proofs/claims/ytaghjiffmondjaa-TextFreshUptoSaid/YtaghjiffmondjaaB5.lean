/-
  text.Escape, text.Hex, text.Name: what they answer of every text (of a size that their slices can have).
-/
import Derived.Test.YtaghjiffmondjaaB4
set_option linter.unusedSimpArgs false
set_option linter.unusedVariables false
namespace Go.Proofs.Ytaghjiffmondjaa
open Go.RowKit

theorem toList_eq (s : ByteArray) : s.toList = s.data.toList := ByteArray.toList_eq s
theorem toList_of_size {s : ByteArray} (h : s.size = 0) : s.toList = [] := by rw [toList_eq]; exact List.eq_nil_of_length_eq_zero (by simpa using h)
theorem isEmpty_of_size {s : ByteArray} (h : ¬ s.size = 0) : s.toList.isEmpty = false := by
  rw [toList_eq, List.isEmpty_eq_false_iff]; intro e; exact h (by have := congrArg List.length e; simpa using this)
def escOne (c : UInt8) : List UInt8 := if plainB c then [c] else escC c
def escL (l : List UInt8) : List UInt8 := l.flatMap escOne
def escape (s : ByteArray) : ByteArray := if s.size = 0 then ⟨#[37]⟩ else ⟨(escL s.data.toList).toArray⟩
def hexL (l : List UInt8) : List UInt8 := l.flatMap hexC
def hex (s : ByteArray) : ByteArray := ⟨(hexL s.data.toList).toArray⟩
theorem escOne_len (c : UInt8) : (escOne c).length ≤ 3 := by unfold escOne; split <;> simp [escC]
theorem flatMap_len {f : UInt8 → List UInt8} {n : Nat} (hf : ∀ c, (f c).length ≤ n) (l : List UInt8) : (l.flatMap f).length ≤ n * l.length := by
  induction l with
  | nil => simp
  | cons c l ih => simp only [List.flatMap_cons, List.length_append, List.length_cons, Nat.mul_add, Nat.mul_one]; have := hf c; omega

def EscI (f : UInt8 → List UInt8) (p B : Nat) (s : ByteArray) (w0 : World) (i : Nat) (w : World) : Prop :=
  ∃ v, OutW p B ((s.data.toList.take i).flatMap f) w v ∧ Below B w0 w

theorem flatMap_snoc (f : UInt8 → List UInt8) (s : ByteArray) (i : Nat) (hi : i < s.size) : (s.data.toList.take (i + 1)).flatMap f = (s.data.toList.take i).flatMap f ++ f s[i] := by
  rw [take_snoc s i hi, List.flatMap_append]; simp

theorem esc_round (p B : Nat) (s : ByteArray) (hs : 3 * s.size + 3 < 140737488355328) (w0 : World) (i : Nat) (hi : i < s.size) (w : World) (h : EscI escOne p B s w0 i w) :
    Calls Try.prog 52 (#[.int .u8 (s[i].toNat : Int)] ++ #[.pointer (some ⟨p, 0, none⟩)]) w fun e w' => ∃ b, e = .returned (.bool b) ∧ (b = true → EscI escOne p B s w0 (i + 1) w') ∧ (b = false → False) := by
  obtain ⟨v, hO, hB⟩ := h
  have hlen : ((s.data.toList.take i).flatMap escOne).length + 3 < 140737488355328 := by
    have h1 := flatMap_len escOne_len (s.data.toList.take i)
    have h2 : (s.data.toList.take i).length ≤ i := by simp; omega
    omega
  by_cases hp : plainB s[i] = true
  · have hp' := hp
    unfold plainB at hp'
    have hp' := of_decide_eq_true hp'
    refine (esc1_plain p B _ w v hO hlen s[i] (by simp; omega) (by simp; omega) (by simp; omega)).mono ?_
    rintro e w' ⟨v', rfl, hO', hB'⟩
    refine ⟨true, rfl, fun _ => ⟨v', ?_, hB.trans hB'⟩, by simp⟩
    rw [flatMap_snoc _ _ _ hi]
    unfold escOne at *
    rw [if_pos hp]
    exact hO'
  · have hp' : ¬ (32 < s[i].toNat ∧ s[i].toNat < 127 ∧ s[i].toNat ≠ 37) := fun h => hp (by unfold plainB; exact decide_eq_true h)
    have hc : decide (32 < (s[i].toNat : Int)) = false ∨ decide (32 < (s[i].toNat : Int)) = true ∧ decide ((s[i].toNat : Int) < 127) = false ∨ decide (32 < (s[i].toNat : Int)) = true ∧ decide ((s[i].toNat : Int) < 127) = true ∧ ((s[i].toNat : Int) != 37) = false := by
      by_cases h1 : 32 < s[i].toNat
      · by_cases h2 : s[i].toNat < 127
        · have h3 : s[i].toNat = 37 := by omega
          exact .inr (.inr ⟨by simp; omega, by simp; omega, by simp [h3]⟩)
        · exact .inr (.inl ⟨by simp; omega, by simp; omega⟩)
      · exact .inl (by simp; omega)
    refine (esc1_code p B _ w v hO hlen s[i] hc).mono ?_
    rintro e w' ⟨v', rfl, hO', hB'⟩
    refine ⟨true, rfl, fun _ => ⟨v', ?_, hB.trans hB'⟩, by simp⟩
    rw [flatMap_snoc _ _ _ hi]
    unfold escOne at *
    rw [if_neg hp]
    exact hO'

theorem hex_round (p B : Nat) (s : ByteArray) (hs : s.size ≤ 70368744177664) (w0 : World) (i : Nat) (hi : i < s.size) (w : World) (h : EscI hexC p B s w0 i w) :
    Calls Try.prog 48 (#[.int .u8 (s[i].toNat : Int)] ++ #[.pointer (some ⟨p, 0, none⟩)]) w fun e w' => ∃ b, e = .returned (.bool b) ∧ (b = true → EscI hexC p B s w0 (i + 1) w') ∧ (b = false → False) := by
  obtain ⟨v, hO, hB⟩ := h
  have hlen : ((s.data.toList.take i).flatMap hexC).length + 2 ≤ 140737488355328 := by
    have h1 := flatMap_len (n := 2) (f := hexC) (fun _ => Nat.le_refl 2) (s.data.toList.take i)
    have h2 : (s.data.toList.take i).length ≤ i := by simp; omega
    omega
  refine (hex1_calls p B _ w v hO hlen s[i]).mono ?_
  rintro e w' ⟨v', rfl, hO', hB'⟩
  refine ⟨true, rfl, fun _ => ⟨v', ?_, hB.trans hB'⟩, by simp⟩
  rw [flatMap_snoc _ _ _ hi]
  exact hO'

theorem run_start (w : World) (B : Nat) (hB : B ≤ w.heap.size) (v : Value) (h : w.ownsRow B 5 1 v 0 []) (hv : v.ownBlock ≠ some w.heap.size) :
    OutW w.heap.size B [] (w.alloc (.cells #[v] 52)) v := ⟨heap_alloc_new _ _, h.alloc _, hv, hB⟩

theorem escape_calls (s : ByteArray) (hs : 3 * s.size + 3 < 140737488355328) (w : World) :
    Calls Try.prog 30 #[.string s] w fun e w' => e = .returned (.string (escape s)) ∧ Below w.heap.size w w' := by
  have hmf := makeFunc_run
  have hsm : s.size ≤ maxLen := by unfold maxLen; omega
  by_cases h0 : s.size = 0
  · have h1 : s.toList = [] := toList_of_size h0
    have HF := Lib.hid (show escape s = ⟨#[37]⟩ by unfold escape; rw [if_pos h0])
    clear h0
    go_enter Try.func30, Try.ntmps30
    go_wp2
    go_ret
    exact ⟨by rw [HF.out]; rfl, Below.refl _ _⟩
  · have h1 : s.toList.isEmpty = false := isEmpty_of_size h0
    have HF := Lib.hid (show escape s = ⟨(escL s.data.toList).toArray⟩ by unfold escape; rw [if_neg h0])
    clear h0
    have hO := run_start w w.heap.size (Nat.le_refl _) (.slice none 0 0) (World.ownsRow_nil _ _ _ _) (by simp [Value.ownBlock])
    have hB := (Below.refl w.heap.size w).alloc (Nat.le_refl _) (.cells #[.slice none 0 0] 52)
    go_enter Try.func30, Try.ntmps30
    go_wp2_with fail
    generalize w.alloc (.cells #[.slice none 0 0] 52) = w0 at hO hB ⊢
    refine (each_any 52 #[.pointer (some ⟨w.heap.size, 0, none⟩)] s hsm (EscI escOne w.heap.size w.heap.size s w) (fun _ _ => False) (fun _ _ => rfl) (fun i hi w' h => esc_round _ _ s hs w i hi w' h) w0 ⟨_, hO, hB⟩).mono ?_
    rintro e w1 h1
    obtain ⟨rfl, v, hW1, hB1⟩ : e = .returned (.bool true) ∧ EscI escOne w.heap.size w.heap.size s w s.size w1 := by
      rcases h1 with h | ⟨_, _, _, h⟩
      · exact h
      · exact h.elim
    rw [List.take_of_length_le (by simp)] at hW1
    have hconv := own_string hW1.owns
    have c2 : w1.cell? ⟨w.heap.size, 0, none⟩ = some v := by
      have := hW1.cell
      simp [World.cell?, this]
    have HB1 := Lib.hid hB1
    clear hW1 hB1 hO hB h1
    go_wp2
    go_ret
    exact ⟨by rw [HF.out]; rfl, HB1.out⟩

theorem zeroCells_made (w : World) (n : Nat) (hn : n ≤ 281474976710656) :
    (Instr.makeSlice 52 (.int .i64 0) (.int .i64 (n : Int))).run Try.prog w = .ok (.slice (some ⟨w.heap.size, 0, none⟩) 0 n) (w.alloc (.cells (madeCells #[Value.int .u8 0] n) 5)) := by
  obtain ⟨i0, hi, hz0, hz1, hz2⟩ := info_parts info5
  have hr := run_make (P := Try.prog) w 52 5 i0 (.int .u8 0) Try.underlying52 hi hz0 .i64 .i64 0 n (by omega) (by omega) (by rw [hz2]; omega) (by omega)
  rw [hz1] at hr
  simpa [Value.cells] using hr

theorem hex_calls (s : ByteArray) (hs : s.size ≤ 70368744177664) (w : World) :
    Calls Try.prog 24 #[.string s] w fun e w' => e = .returned (.string (hex s)) ∧ Below w.heap.size w w' := by
  have hmf := makeFunc_run
  have hsm : s.size ≤ maxLen := by unfold maxLen; omega
  have hmk := fun (w : World) => zeroCells_made w (2 * s.size) (by omega)
  have hsz : (s.size : Int) ≤ 70368744177664 := by omega
  simp only [Int.natCast_mul, Int.cast_ofNat_Int] at hmk
  have HF := Lib.hid (show hex s = ⟨(hexL s.data.toList).toArray⟩ from rfl)
  go_enter Try.func24, Try.ntmps24
  go_wp2_with fail
  have hO := run_start (w.alloc (.cells (madeCells #[Value.int IntKind.u8 0] (2 * s.size)) 5)) w.heap.size (by simp) (.slice (some ⟨w.heap.size, 0, none⟩) 0 (2 * s.size))
    (World.ownsRow_made w _ _ (Nat.le_refl _) (by unfold maxLen; omega) (by simp [madeCells])) (by simp [Value.ownBlock])
  have hB : Below w.heap.size w ((w.alloc (.cells (madeCells #[Value.int IntKind.u8 0] (2 * s.size)) 5)).alloc (.cells #[.slice (some ⟨w.heap.size, 0, none⟩) 0 (2 * s.size)] 52)) := ((Below.refl _ _).alloc (Nat.le_refl _) _).alloc (by simp) _
  rw [World.size_alloc] at hO
  generalize (w.alloc (.cells (madeCells #[Value.int IntKind.u8 0] (2 * s.size)) 5)).alloc (.cells #[.slice (some ⟨w.heap.size, 0, none⟩) 0 (2 * s.size)] 52) = w0 at hO hB ⊢
  refine (each_any 48 #[.pointer (some ⟨w.heap.size + 1, 0, none⟩)] s hsm (EscI hexC (w.heap.size + 1) w.heap.size s w) (fun _ _ => False) (fun _ _ => rfl) (fun i hi w' h => hex_round _ _ s hs w i hi w' h) w0 ⟨_, hO, hB⟩).mono ?_
  rintro e w1 h1
  obtain ⟨rfl, v, hW1, hB1⟩ : e = .returned (.bool true) ∧ EscI hexC (w.heap.size + 1) w.heap.size s w s.size w1 := by
    rcases h1 with h | ⟨_, _, _, h⟩
    · exact h
    · exact h.elim
  rw [List.take_of_length_le (by simp)] at hW1
  have hconv := own_string hW1.owns
  have c2 : w1.cell? ⟨w.heap.size + 1, 0, none⟩ = some v := by
    have := hW1.cell
    simp [World.cell?, this]
  have HB1 := Lib.hid hB1
  clear hW1 hB1 hO hB h1
  go_wp2
  go_ret
  exact ⟨by rw [HF.out]; rfl, HB1.out⟩

/-- what a name is -/
def nameOk (s : ByteArray) : Bool := decide (1 ≤ s.size ∧ s.size ≤ 64) && s.data.toList.all nameB
theorem name_round (s : ByteArray) (w0 : World) (i : Nat) (hi : i < s.size) (w : World) (h : (∀ c ∈ s.data.toList.take i, nameB c = true) ∧ w0 = w) :
    Calls Try.prog 53 (#[.int .u8 (s[i].toNat : Int)] ++ #[]) w fun e w' => ∃ b, e = .returned (.bool b) ∧ (b = true → (∀ c ∈ s.data.toList.take (i + 1), nameB c = true) ∧ w0 = w') ∧ (b = false → (∃ c ∈ s.data.toList, nameB c = false) ∧ w0 = w') := by
  obtain ⟨hall, rfl⟩ := h
  refine (name1_calls s[i] w0).mono ?_
  rintro e w' ⟨rfl, rfl⟩
  refine ⟨_, rfl, fun hb => ⟨?_, rfl⟩, fun hb => ⟨⟨s[i], List.getElem_mem (l := s.data.toList) (by simpa using hi), hb⟩, rfl⟩⟩
  rw [take_snoc s i hi]
  intro c hc
  rcases List.mem_append.1 hc with hc | hc
  · exact hall c hc
  · simp at hc; subst hc; exact hb

theorem name_calls (s : ByteArray) (hs : s.size ≤ maxLen) (w : World) :
    Calls Try.prog 32 #[.string s] w fun e w' => e = .returned (.bool (nameOk s)) ∧ w = w' := by
  by_cases h1 : s.size < 1
  · have HF := Lib.hid (show nameOk s = false by unfold nameOk; rw [decide_eq_false (by omega)]; rfl)
    have e1 : decide ((s.size : Int) < 1) = true := by simp; omega
    clear h1
    go_enter Try.func32, Try.ntmps32
    go_wp2
    go_ret
    exact ⟨by rw [HF.out]; rfl, rfl⟩
  · by_cases h2 : 64 < s.size
    · have HF := Lib.hid (show nameOk s = false by unfold nameOk; rw [decide_eq_false (by omega)]; rfl)
      have e1 : decide ((s.size : Int) < 1) = false := by simp; omega
      have e2 : decide (64 < (s.size : Int)) = true := by simp; omega
      clear h1 h2
      go_enter Try.func32, Try.ntmps32
      go_wp2
      go_ret
      exact ⟨by rw [HF.out]; rfl, rfl⟩
    · have HF := Lib.hid (show nameOk s = s.data.toList.all nameB by unfold nameOk; rw [decide_eq_true (by omega)]; rfl)
      have e1 : decide ((s.size : Int) < 1) = false := by simp; omega
      have e2 : decide (64 < (s.size : Int)) = false := by simp; omega
      clear h1 h2
      go_enter Try.func32, Try.ntmps32
      go_wp2_with fail
      refine (each_any 53 #[] s hs (fun i w' => (∀ c ∈ s.data.toList.take i, nameB c = true) ∧ w = w') (fun i w' => (∃ c ∈ s.data.toList, nameB c = false) ∧ w = w') (fun _ _ => rfl) (fun i hi w' h => name_round s w i hi w' h) w ⟨by simp, rfl⟩).mono ?_
      rintro e w1 h1
      obtain ⟨rfl, rfl⟩ : e = .returned (.bool (s.data.toList.all nameB)) ∧ w = w1 := by
        rcases h1 with ⟨he, h, hw⟩ | ⟨he, i, hi, ⟨c, hc, hb⟩, hw⟩
        · rw [List.take_of_length_le (by simp)] at h
          exact ⟨by rw [he, List.all_eq_true.2 h], hw⟩
        · refine ⟨?_, hw⟩
          rw [he, List.all_eq_false.2 ⟨c, hc, by simp [hb]⟩]
      clear h1
      obtain ⟨b, hb⟩ : ∃ b, b = s.data.toList.all nameB := ⟨_, rfl⟩
      rw [← hb] at HF ⊢
      clear hb
      go_wp2
      go_ret
      exact ⟨by rw [HF.out]; rfl, rfl⟩
end Go.Proofs.Ytaghjiffmondjaa
