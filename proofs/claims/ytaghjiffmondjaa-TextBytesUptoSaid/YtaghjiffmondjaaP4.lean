/-
  Plain laws: the document's guess at base64.
-/
import Derived.Test.YtaghjiffmondjaaB33
set_option linter.unusedVariables false
set_option linter.unusedSimpArgs false
namespace Go.Proofs.Ytaghjiffmondjaa
open Go.RowKit


def vl (c : UInt8) : Nat := tb SIGNS c - 1
def qd (a b c d : UInt8) : Nat := vl a * 262144 + vl b * 4096 + vl c * 64 + vl d
def three (n : Nat) : List UInt8 := [UInt8.ofNat (n / 65536), UInt8.ofNat (n / 256 % 256), UInt8.ofNat (n % 256)]
def quadsL : List UInt8 → List UInt8
  | a :: b :: c :: d :: l => three (qd a b c d) ++ quadsL l
  | _ => []
def cutL (l : List UInt8) : Nat := if l.getLast? = some 61 then (if l.dropLast.getLast? = some 61 then 2 else 1) else 0
def rBare (s : ByteArray) : ByteArray := mk ((quadsL s.data.toList).take ((quadsL s.data.toList).length - cutL s.data.toList))
def rUnB64 (s : ByteArray) : ByteArray × Int := if b64 (rBare s) = s then (rBare s, 0) else (⟨#[]⟩, 40)
theorem vl_sg (v i : Nat) : vl (sg v i) = v / 2 ^ (18 - 6 * i) % 64 := by unfold vl; rw [tb_sg]; simp
theorem vl_61 : vl 61 = 0 := by kernel_rfl
theorem vl_lt (c : UInt8) : vl c < 64 := by
  have h := tb_le SIGNS c
  have h2 : SIGNS.size = 64 := rfl
  unfold vl; omega
theorem qd_lt (a b c d : UInt8) : qd a b c d < 16777216 := by
  have := vl_lt a; have := vl_lt b; have := vl_lt c; have := vl_lt d
  unfold qd; omega
theorem qd3 (v : Nat) (h : v < 16777216) : qd (sg v 0) (sg v 1) (sg v 2) (sg v 3) = v := by
  unfold qd; rw [vl_sg, vl_sg, vl_sg, vl_sg]
  show v / 262144 % 64 * 262144 + v / 4096 % 64 * 4096 + v / 64 % 64 * 64 + v / 1 % 64 = v
  omega
theorem qd2 (v : Nat) (h : v < 16777216) (h2 : v % 256 = 0) : qd (sg v 0) (sg v 1) (sg v 2) 61 = v := by
  unfold qd; rw [vl_sg, vl_sg, vl_sg, vl_61]
  show v / 262144 % 64 * 262144 + v / 4096 % 64 * 4096 + v / 64 % 64 * 64 + 0 = v
  omega
theorem qd1 (v : Nat) (h : v < 16777216) (h2 : v % 65536 = 0) : qd (sg v 0) (sg v 1) 61 61 = v := by
  unfold qd; rw [vl_sg, vl_sg, vl_61]
  show v / 262144 % 64 * 262144 + v / 4096 % 64 * 4096 + 0 * 64 + 0 = v
  omega
theorem three_val (a b c : UInt8) : three (val3 a b c) = [a, b, c] := by
  have ha := a.toNat_lt
  have hb := b.toNat_lt
  have hc := c.toNat_lt
  unfold three val3
  rw [u8_of (a := a) (by omega), u8_of (a := b) (by omega), u8_of (a := c) (by omega)]
theorem zero_toNat : (0 : UInt8).toNat = 0 := rfl
theorem last_app (x y : List UInt8) (h : y ≠ []) : (x ++ y).getLast? = y.getLast? := by
  rw [List.getLast?_append]
  cases hl : y.getLast? with
  | none => exact absurd (List.getLast?_eq_none_iff.1 hl) h
  | some z => rfl
theorem cutL_app (x y : List UInt8) (h : 2 ≤ y.length) : cutL (x ++ y) = cutL y := by
  have h0 : y ≠ [] := by intro e; rw [e] at h; simp at h
  have h1 : y.dropLast ≠ [] := by intro e; have := congrArg List.length e; simp at this; omega
  unfold cutL
  rw [List.dropLast_append_of_ne_nil h0, last_app _ _ h0, last_app _ _ h1]
theorem cut3 (v : Nat) : cutL (four 3 v) = 0 := by
  rw [four3]; unfold cutL
  rw [if_neg (by simp; exact sg_ne v 3)]
theorem cut2 (v : Nat) : cutL (four 2 v) = 1 := by
  rw [four2]; unfold cutL
  rw [if_pos (by rfl), if_neg (by simp; exact sg_ne v 2)]
theorem cut1 (v : Nat) : cutL (four 1 v) = 2 := by
  rw [four1]; rfl
theorem quads_cons (v n : Nat) (l : List UInt8) (h : quadsL (four n v) = three v) : quadsL (four n v ++ l) = three v ++ quadsL l := by
  have hl := four_len n v
  match hf : four n v, hl with
  | [a, b, c, d], _ =>
    rw [hf] at h
    simp only [quadsL, List.append_nil] at h
    show three (qd a b c d) ++ quadsL l = _
    rw [h]
theorem guess_b64 : ∀ l : List UInt8, (quadsL (b64L l)).take ((quadsL (b64L l)).length - cutL (b64L l)) = l ∧ cutL (b64L l) ≤ (quadsL (b64L l)).length
  | [] => ⟨rfl, by simp [b64L, cutL]⟩
  | [a] => by
    have ha := a.toNat_lt
    have h1 : quadsL (b64L [a]) = [a, 0, 0] := by
      show quadsL (four 1 (val3 a 0 0)) = _
      rw [four1]
      show three (qd _ _ _ _) ++ [] = _
      rw [qd1 _ (val3_lt _ _ _) (by unfold val3; rw [zero_toNat]; omega), three_val]; rfl
    have h2 : cutL (b64L [a]) = 2 := cut1 _
    rw [h1, h2]; exact ⟨rfl, by simp⟩
  | [a, b] => by
    have h1 : quadsL (b64L [a, b]) = [a, b, 0] := by
      show quadsL (four 2 (val3 a b 0)) = _
      rw [four2]
      show three (qd _ _ _ _) ++ [] = _
      rw [qd2 _ (val3_lt _ _ _) (by unfold val3; rw [zero_toNat]; omega), three_val]; rfl
    have h2 : cutL (b64L [a, b]) = 1 := cut2 _
    rw [h1, h2]; exact ⟨rfl, by simp⟩
  | a :: b :: c :: l => by
    have ih := guess_b64 l
    have h1 : quadsL (b64L (a :: b :: c :: l)) = [a, b, c] ++ quadsL (b64L l) := by
      show quadsL (four 3 (val3 a b c) ++ b64L l) = _
      rw [quads_cons, three_val]
      rw [four3]
      show three (qd _ _ _ _) ++ [] = _
      rw [qd3 _ (val3_lt _ _ _), List.append_nil]
    have h2 : cutL (b64L (a :: b :: c :: l)) = cutL (b64L l) := by
      show cutL (four 3 (val3 a b c) ++ b64L l) = _
      by_cases hl : l = []
      · subst hl; show cutL (four 3 _ ++ []) = cutL []; rw [List.append_nil, cut3]; rfl
      · exact cutL_app _ _ (by have := b64L_pos l hl; omega)
    rw [h1, h2]
    refine ⟨?_, by simp; omega⟩
    have h3 : ([a, b, c] ++ quadsL (b64L l)).length - cutL (b64L l) = 3 + ((quadsL (b64L l)).length - cutL (b64L l)) := by
      have := ih.2; simp; omega
    rw [h3]
    have := ih.1
    rw [show 3 + ((quadsL (b64L l)).length - cutL (b64L l)) = ((quadsL (b64L l)).length - cutL (b64L l)) + 1 + 1 + 1 by omega]
    simp only [List.cons_append, List.take_succ_cons, List.nil_append, List.cons.injEq, true_and]
    exact this
theorem rUnB64_eq (s : ByteArray) : rUnB64 s = unB64 s := by
  refine guess_same b64 rBare unB64 40 (fun t => ?_) unB64_b64 b64_unB64 (fun s h => ?_) s
  · show mk ((quadsL (b64 t).data.toList).take ((quadsL (b64 t).data.toList).length - cutL (b64 t).data.toList)) = t
    rw [show (b64 t).data.toList = b64L t.data.toList by simp [b64], (guess_b64 _).1, mk_data]
  · unfold unB64 at h ⊢
    split
    · rename_i h2; rw [if_pos h2] at h; exact absurd rfl h
    · rfl
theorem quads_at (s : ByteArray) (i : Nat) (h : i + 3 < s.size) : quadsL (s.data.toList.drop i) = three (qd s[i] s[i + 1] s[i + 2] s[i + 3]) ++ quadsL (s.data.toList.drop (i + 4)) := by
  rw [drop_at s i (by omega), drop_at s (i + 1) (by omega), drop_at s (i + 2) (by omega), drop_at s (i + 3) h, quadsL]
theorem quads_end (s : ByteArray) (i : Nat) (h : ¬ i + 3 < s.size) : quadsL (s.data.toList.drop i) = [] := by
  have hl : (s.data.toList.drop i).length < 4 := by simp; omega
  match s.data.toList.drop i, hl with
  | [], _ => rfl
  | [_], _ => rfl
  | [_, _], _ => rfl
  | [_, _, _], _ => rfl
theorem getLast_at2 (r : ByteArray) (h : r.size - 2 < r.size) (h1 : 1 < r.size) : r.data.toList.dropLast.getLast? = some r[r.size - 2] := by
  have hl : r.data.toList.length = r.size := by simp
  rw [List.getLast?_eq_getElem?, List.length_dropLast, hl, List.getElem?_eq_getElem (by rw [List.length_dropLast]; omega), List.getElem_dropLast]
  rfl
theorem cut_short (s : ByteArray) (h : (quadsL s.data.toList).length < cutL s.data.toList) : rUnB64 s = (⟨#[]⟩, 40) := by
  unfold rUnB64
  rw [if_neg]
  intro e
  have h1 := (guess_b64 (rBare s).data.toList).2
  have h2 : (b64 (rBare s)).data.toList = b64L (rBare s).data.toList := by simp [b64]
  rw [← h2, e] at h1
  omega
end Go.Proofs.Ytaghjiffmondjaa
