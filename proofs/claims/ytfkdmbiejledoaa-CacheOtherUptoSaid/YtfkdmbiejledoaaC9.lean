/-
  pick, digits, and the lists of keys.
-/
import Derived.Test.YtfkdmbiejledoaaC8
import Derived.Test.YtfkdmbiejledoaaG5
set_option linter.unusedVariables false
set_option linter.unusedSimpArgs false
namespace Go.Proofs.Ytfkdmbiejledoaa
open Go.RowKit


def mk (l : List UInt8) : ByteArray := ⟨l.toArray⟩
theorem mk_list (l : List UInt8) : (mk l).data.toList = l := by simp [mk]
theorem mk_data (a : ByteArray) : mk a.data.toList = a := bytes_ext (by simp [mk])
theorem mk_app (a b : List UInt8) : mk a ++ mk b = mk (a ++ b) := bytes_ext (by simp [mk, ByteArray.data_append])
theorem mk_size (l : List UInt8) : (mk l).size = l.length := by simp [mk, ByteArray.size]
theorem str_eq (s : ByteArray) : (s.toList == s.toList) = true := by simp
theorem str_ne {a b : ByteArray} (h : ¬ a = b) : (a.toList == b.toList) = false := by
  rw [beq_eq_false_iff_ne]
  intro e
  rw [ByteArray.toList_eq, ByteArray.toList_eq] at e
  exact h (bytes_ext e)
theorem pick_calls (k n : Int) (hn : 0 < n) (hn2 : n ≤ 1000000000) (hk : -9223372036854775808 ≤ k ∧ k ≤ 9223372036854775807) (w : World) :
    Calls Try.prog 13 #[.int .i64 k, .int .i64 n] w fun r w' => r = .returned (.int .i64 (pickZ k n)) ∧ w = w' := by
  have h1 := Int.tmod_lt_of_pos k hn
  have h2 : -n < k.tmod n := Int.lt_tmod_of_pos k hn
  have HP : Hid (pickZ k n = if k.tmod n < 0 then k.tmod n + n else k.tmod n) := Lib.hid rfl
  have h3 : k.tmod n ≤ 1000000000 := by omega
  have h4 : -1000000000 ≤ k.tmod n := by omega
  have h5 : n ≠ 0 := by omega
  clear hk
  by_cases hlt : k.tmod n < 0
  · have HF := Lib.hid (show pickZ k n = k.tmod n + n by rw [HP.out, if_pos hlt])
    go_enter Try.func13, Try.ntmps13
    go_wp2
    go_ret
    exact ⟨by rw [HF.out]; rfl, rfl⟩
  · have HF := Lib.hid (show pickZ k n = k.tmod n by rw [HP.out, if_neg hlt])
    go_enter Try.func13, Try.ntmps13
    go_wp2
    go_ret
    exact ⟨by rw [HF.out]; rfl, rfl⟩
def DIG : ByteArray := ⟨#[48, 49, 50, 51, 52, 53, 54, 55, 56, 57]⟩
theorem dig_ext (u : Nat) (h : u ≤ 9) : DIG.extract u (u + 1) = mk [UInt8.ofNat (48 + u)] := by
  have : ∀ u : Fin 10, DIG.extract u.val (u.val + 1) = mk [UInt8.ofNat (48 + u.val)] := by decide +kernel
  exact this ⟨u, by omega⟩
def dkey (n : Int) : ByteArray := mk (107 :: dN 20 (n % 18446744073709551616).toNat)
theorem dkey_size (n : Int) : (dkey n).size ≤ 21 := by unfold dkey; rw [mk_size]; have := dN_len 20 (n % 18446744073709551616).toNat; simp; omega
theorem toU (n : Int) : ∃ U : Nat, IntKind.u64.wrap n = (U : Int) ∧ U = (n % 18446744073709551616).toNat ∧ U < 18446744073709551616 := by
  refine ⟨(n % 18446744073709551616).toNat, ?_, rfl, ?_⟩
  · have : IntKind.u64.wrap n = n % 18446744073709551616 := by simp [IntKind.wrap, IntKind.signed, IntKind.bits]
    rw [this]; omega
  · omega
set_option maxHeartbeats 1000000 in
set_option maxRecDepth 100000 in
theorem digits_calls (n : Int) (hn : -9223372036854775808 ≤ n ∧ n ≤ 9223372036854775807) (w : World) :
    Calls Try.prog 14 #[.int .i64 n] w fun r w' => r = .returned (.string (dkey n)) ∧ w = w' := by
  obtain ⟨U, h1, h2, h3⟩ := toU n
  have H2 := Lib.hid h2
  have HU := Lib.hid h3
  have H3 : Hid (U < 10 ^ 20) := Lib.hid (by omega)
  have HK := Lib.hid (show dkey n = mk (107 :: dN 20 U) by unfold dkey; rw [H2.out])
  clear h2 h3 hn
  go_enter Try.func14, Try.ntmps14
  go_wp2
  go_loopg [3, 4] 20 (fun g sv uv wr => ∃ (u : Nat) (s : ByteArray), uv = .int .u64 u ∧ sv = .string s ∧ Hid (u < 10 ^ g ∧ 1 ≤ g ∧ s.size + g ≤ 20 ∧ dN 20 U = dN g u ++ s.data.toList ∧ u ≤ U) ∧ w = wr)
  case atStart => exact ⟨U, ⟨#[]⟩, rfl, rfl, Lib.hid ⟨H3.out, by decide, by decide, (List.append_nil _).symm, Nat.le_refl _⟩, rfl⟩
  case round =>
    obtain ⟨u, s, rfl, rfl, HI, rfl⟩ := hrel
    have hsz : s.size ≤ 20 := by have := HI.out.2.2.1; omega
    obtain ⟨g, rfl⟩ : ∃ g, gk = g + 1 := ⟨gk - 1, by have := HI.out.2.1; omega⟩
    by_cases h9 : u ≤ 9
    · have HE := Lib.hid (dig_ext u h9)
      have HF := Lib.hid (show dN 20 U = [UInt8.ofNat (48 + u)] ++ s.data.toList by
        have := HI.out.2.2.2.1
        rw [show dN (g + 1) u = [UInt8.ofNat (48 + u)] by unfold dN; rw [if_pos h9]] at this; exact this)
      have k1 : decide (9 < (u : Int)) = false := decide_eq_false (by omega)
      go_wp2
      go_ret
      refine ⟨?_, rfl⟩
      rw [HK.out]
      refine congrArg (fun x => Ending.returned (Value.string x)) (?_ : (⟨#[107]⟩ : ByteArray) ++ DIG.extract u (u + 1) ++ s = mk (107 :: dN 20 U))
      rw [HE.out, HF.out, show (⟨#[107]⟩ : ByteArray) = mk [107] from rfl, mk_app]
      exact bytes_ext (by simp [ByteArray.data_append, mk])
    · have hm : u % 10 ≤ 9 := by omega
      have HE := Lib.hid (dig_ext (u % 10) hm)
      have hg0 : g ≠ 0 := by rintro rfl; have := HI.out.1; omega
      have HN := Lib.hid (show u / 10 < 10 ^ g ∧ 1 ≤ g ∧ (DIG.extract (u % 10) (u % 10 + 1) ++ s).size + g ≤ 20 ∧ dN 20 U = dN g (u / 10) ++ (DIG.extract (u % 10) (u % 10 + 1) ++ s).data.toList ∧ u / 10 ≤ U by
        obtain ⟨i1, i2, i3, i4, i5⟩ := HI.out
        refine ⟨?_, by omega, ?_, ?_, by omega⟩
        · rw [Nat.pow_succ] at i1; omega
        · rw [ByteArray.size_append, HE.out, mk_size]; simp; omega
        · rw [i4, show dN (g + 1) u = dN g (u / 10) ++ [UInt8.ofNat (48 + u % 10)] by (conv => lhs; unfold dN); rw [if_neg h9], HE.out, ByteArray.data_append]; simp [mk])
      have HW := Lib.hid (show IntKind.u64.wrap ((u : Int) / 10) = ((u / 10 : Nat) : Int) from by have := HI.out.2.2.2.2; have := HU.out; simp [IntKind.wrap, IntKind.signed, IntKind.bits]; omega)
      have k1 : decide (9 < (u : Int)) = true := decide_eq_true (by omega)
      clear h9
      go_wp2
      go_roundg g
      case measure => omega
      case rel => exact ⟨u / 10, _, by rw [← HW.out], rfl, HN, rfl⟩
theorem get_str {xs : List ByteArray} {i : Nat} (h : i < xs.length) (h2 : i < (xs.map Value.string).length) : (xs.map Value.string)[i] = Value.string xs[i] := by simp
def sameB (xs ys : List ByteArray) : Bool := decide (xs = ys)
/-- a list of texts that is read: its cells -/
theorem SlIn.strs {w : World} {v : Value} {xs : List ByteArray} {B : Nat → Prop} (h : SlIn w v (xs.map Value.string) B) : ∃ A cap, v = .slice A xs.length cap ∧ xs.length ≤ cap ∧ (0 < xs.length → ∃ b o, A = some ⟨b, o, none⟩ ∧ b < w.heap.size ∧ ∀ i (h : i < xs.length), w.cell? ⟨b, o + i, none⟩ = some (.string xs[i])) := by
  obtain ⟨A, cap, rfl, hc, h⟩ := h
  have hl : (xs.map Value.string).length = xs.length := List.length_map _
  rw [hl]
  refine ⟨A, cap, rfl, by omega, fun hp => ?_⟩
  obtain ⟨b, o, h1, h2, _, h4⟩ := h (by omega)
  exact ⟨b, o, h1, h2, fun i hi => by rw [h4 i (by simpa using hi)]; simp⟩

theorem info9 : (Try.prog.info? 9).map (fun i => (i.zero, i.size, i.bytes)) = some (some (.string ⟨#[]⟩), 1, 16) := by kernel_rfl
def hasB (xs : List ByteArray) (k : ByteArray) : Bool := xs.any fun x => decide (x = k)
theorem hasB_true {xs : List ByteArray} {k : ByteArray} (h : k ∈ xs) : hasB xs k = true := List.any_eq_true.2 ⟨k, h, by simp⟩
theorem hasB_false {xs : List ByteArray} {k : ByteArray} (h : k ∉ xs) : hasB xs k = false := List.any_eq_false.2 fun x hx => by simp; rintro rfl; exact h hx
theorem holds_calls (xs : List ByteArray) (k : ByteArray) (v : Value) (w : World) (B : Nat → Prop) (h : SlIn w v (xs.map Value.string) B) (hl : xs.length ≤ 1000000000) :
    Calls Try.prog 15 #[v, .string k] w fun r w' => r = .returned (.bool (hasB xs k)) ∧ w = w' := by
  obtain ⟨A, cap, rfl, hc, h⟩ := h.strs
  have HC := Lib.hid h
  clear h
  go_enter Try.func15, Try.ntmps15
  go_wp2
  go_loopw [5] (fun iv wr => ∃ i : Nat, iv = .int .i64 i ∧ i ≤ xs.length ∧ Hid (k ∉ xs.take i) ∧ w = wr) (fun iv _ => xs.length - (intOf iv).toNat)
  case atStart => exact ⟨0, rfl, by omega, Lib.hid (by simp), rfl⟩
  case round =>
    obtain ⟨i, rfl, hi', HI, rfl⟩ := hrel
    by_cases hlt : i < xs.length
    · obtain ⟨b, o, rfl, hb, hC1⟩ := HC.out (by omega)
      have c0 := hC1 i hlt
      clear hC1
      have HT := Lib.hid (show xs.take (i + 1) = xs.take i ++ [xs[i]] from List.take_succ_eq_append_getElem hlt)
      have HM := Lib.hid (List.getElem_mem hlt)
      obtain ⟨x, hx⟩ : ∃ x, x = xs[i] := ⟨_, rfl⟩
      rw [← hx] at c0 HT HM
      clear hx
      by_cases he : x = k
      · have t1 : (x.toList == k.toList) = true := by rw [he]; exact str_eq k
        have HF := Lib.hid (show hasB xs k = true from hasB_true (by rw [← he]; exact HM.out))
        clear he
        go_wp2
        go_ret
        exact ⟨by rw [HF.out]; rfl, rfl⟩
      · have t1 := str_ne he
        have HN := Lib.hid (show k ∉ xs.take (i + 1) by
          rw [HT.out, List.mem_append]; rintro (h | h)
          · exact HI.out h
          · exact he (List.mem_singleton.1 h).symm)
        clear he
        go_wp2
        exact ⟨⟨i + 1, by go_num, by omega, HN, trivial⟩, by simp [intOf]; omega⟩
    · obtain rfl : i = xs.length := by omega
      have HF := Lib.hid (show hasB xs k = false from hasB_false (by have := HI.out; rwa [List.take_length] at this))
      go_wp2
      go_ret
      exact ⟨by rw [HF.out]; rfl, rfl⟩
theorem same_calls (xs ys : List ByteArray) (va vb : Value) (w : World) (Ba Bb : Nat → Prop) (h1 : SlIn w va (xs.map Value.string) Ba) (h2 : SlIn w vb (ys.map Value.string) Bb) (hx : xs.length ≤ 1000000000) (hy : ys.length ≤ 1000000000) :
    Calls Try.prog 20 #[va, vb] w fun r w' => r = .returned (.bool (sameB xs ys)) ∧ Below w.heap.size w w' := by
  obtain ⟨A, ca, rfl, _, h1⟩ := h1.strs
  obtain ⟨B, cb, rfl, _, h2⟩ := h2.strs
  have HC1 := Lib.hid h1
  have HC2 := Lib.hid h2
  clear h1 h2
  by_cases hl : xs.length = ys.length
  · rw [← hl]
    have HL := Lib.hid hl
    clear hl hy
    go_enter Try.func20, Try.ntmps20
    go_wp2
    go_loopw [5] (fun iv wr => ∃ i : Nat, iv = .int .i64 i ∧ i ≤ xs.length ∧ Hid (xs.take i = ys.take i) ∧ Hid (Below w.heap.size w wr)) (fun iv _ => xs.length - (intOf iv).toNat)
    case atStart => exact ⟨0, rfl, by omega, Lib.hid rfl, Lib.hid (Below.refl _ _)⟩
    case round =>
      obtain ⟨i, rfl, hi', HI, HB⟩ := hrel
      by_cases hlt : i < xs.length
      · have hlt2 : i < ys.length := by have := HL.out; omega
        obtain ⟨b1, o1, rfl, hb1, hC1⟩ := HC1.out (by omega)
        obtain ⟨b2, o2, rfl, hb2, hC2⟩ := HC2.out (by omega)
        have c1 : wr.cell? ⟨b1, o1 + i, none⟩ = some (.string xs[i]) := by rw [HB.out.cell hb1]; exact hC1 i hlt
        have c2 : wr.cell? ⟨b2, o2 + i, none⟩ = some (.string ys[i]) := by rw [HB.out.cell hb2]; exact hC2 i hlt2
        clear hC1 hC2
        have HT := Lib.hid (And.intro (List.take_succ_eq_append_getElem hlt) (List.take_succ_eq_append_getElem hlt2))
        have HG : Hid (xs[i] ≠ ys[i] → sameB xs ys = false) := Lib.hid fun h => decide_eq_false (fun e => h (by subst e; rfl))
        obtain ⟨x, hx⟩ : ∃ x, x = xs[i] := ⟨_, rfl⟩
        obtain ⟨y, hy⟩ : ∃ y, y = ys[i] := ⟨_, rfl⟩
        rw [← hx] at c1 HT HG
        rw [← hy] at c2 HT HG
        clear hx hy
        by_cases he : x = y
        · have t1 : (x.toList == y.toList) = true := by rw [he]; exact str_eq y
          have HN := Lib.hid (show xs.take (i + 1) = ys.take (i + 1) by rw [HT.out.1, HT.out.2, HI.out, he])
          clear he
          go_wp2
          go_region
          go_wp2
          exact ⟨⟨i + 1, by go_num, by omega, HN, Lib.hid HB.out.drew⟩, by simp [intOf]; omega⟩
        · have t1 := str_ne he
          have HF := Lib.hid (HG.out he)
          clear he
          go_wp2
          go_region
          go_wp2
          go_ret
          exact ⟨by rw [HF.out]; rfl, HB.out.drew⟩
      · obtain rfl : i = xs.length := by omega
        have HF := Lib.hid (show sameB xs ys = true from decide_eq_true (by have := HI.out; rw [List.take_length, HL.out, List.take_length] at this; exact this))
        go_wp2
        go_ret
        exact ⟨by rw [HF.out]; rfl, HB.out⟩
  · have HF := Lib.hid (show sameB xs ys = false from decide_eq_false (fun e => hl (by rw [e])))
    have k0 : decide ((xs.length : Int) = (ys.length : Int)) = false := by simp; omega
    go_enter Try.func20, Try.ntmps20
    go_wp2
    all_goals first
      | (exfalso; omega)
      | (go_ret; exact ⟨by rw [HF.out]; rfl, Below.refl _ _⟩)
end Go.Proofs.Ytfkdmbiejledoaa
