/-
  The document answer: its cache, place.
-/
import Derived.Test.YtfkdmbiejledoaaP1
import Derived.Test.YtfkdmbiejledoaaG6
set_option linter.unusedVariables false
set_option linter.unusedSimpArgs false
namespace Go.Proofs.Ytfkdmbiejledoaa
open Go.RowKit


structure RRep (w : World) (r : Nat) (most : Int) (Kv Vv : Value) (ks vs : List ByteArray) (hits misses gone : Int) (fp : Nat → Prop) : Prop where
  blk : w.heap[r]? = some (.cells #[.int .i64 most, Kv, Vv, .int .i64 hits, .int .i64 misses, .int .i64 gone] 91 (0, 0))
  kin : SlIn w Kv (ks.map Value.string) fun b => fp b ∧ b ≠ r
  vin : SlIn w Vv (vs.map Value.string) fun b => fp b ∧ b ≠ r
  own : fp r
  lt : ∀ b, fp b → b < w.heap.size
section
variable {w w' wr : World} {r : Nat} {most hits misses gone : Int} {Kv Vv : Value} {ks vs : List ByteArray} {fp : Nat → Prop}
theorem RRep.keep (H : RRep w r most Kv Vv ks vs hits misses gone fp) (hs : w.heap.size ≤ w'.heap.size) (hk : ∀ b, fp b → w'.heap[b]? = w.heap[b]?) : RRep w' r most Kv Vv ks vs hits misses gone fp :=
  ⟨(hk r H.own).trans H.blk, H.kin.keep hs fun b _ hb => hk b hb.1, H.vin.keep hs fun b _ hb => hk b hb.1, H.own, fun b hb => Nat.lt_of_lt_of_le (H.lt b hb) hs⟩
theorem RRep.below (H : RRep w r most Kv Vv ks vs hits misses gone fp) (hb : Below w.heap.size w w') : RRep w' r most Kv Vv ks vs hits misses gone fp := H.keep hb.size fun b h => hb.block b (H.lt b h)
theorem RRep.field (H : RRep w r most Kv Vv ks vs hits misses gone fp) {i : Nat} (hi : i < 6) : w.cell? ⟨r, i, none⟩ = some (#[Value.int .i64 most, Kv, Vv, .int .i64 hits, .int .i64 misses, .int .i64 gone][i]'hi) := cell_of_block H.blk hi
theorem RRep.turned (H : RRep w r most Kv Vv ks vs hits misses gone fp) (hb : Below w.heap.size w wr) {kv vv : Value} {ks' vs' : List ByteArray} {nk nv : Nat} (hk : wr.ownsRow w.heap.size 9 1 kv nk (ks'.map Value.string)) (hv : wr.ownsRow w.heap.size 9 1 vv nv (vs'.map Value.string)) :
    ∃ fp', RRep ((wr.setCell ⟨r, 1, none⟩ kv).setCell ⟨r, 2, none⟩ vv) r most kv vv ks' vs' hits misses gone fp' ∧ Turn fp w ((wr.setCell ⟨r, 1, none⟩ kv).setCell ⟨r, 2, none⟩ vv) ∧ ∀ b, fp' b → fp b ∨ w.heap.size ≤ b := by
  have H2 := H.below hb
  have hr := H.lt r H.own
  have hs : ((wr.setCell ⟨r, 1, none⟩ kv).setCell ⟨r, 2, none⟩ vv).heap.size = wr.heap.size := by simp [World.setCell]
  have ht : Turn (fun b => b = r) wr ((wr.setCell ⟨r, 1, none⟩ kv).setCell ⟨r, 2, none⟩ vv) := ((Turn.refl (fun b => b = r) wr).setCell (p := ⟨r, 1, none⟩) (.inl rfl) kv).setCell (p := ⟨r, 2, none⟩) (.inl rfl) vv
  refine ⟨fun b => fp b ∨ (w.heap.size ≤ b ∧ b < wr.heap.size), ⟨?_, ?_, ?_, .inl H.own, ?_⟩, ?_, ?_⟩
  · have h1 := block_setCell (off := 1) H2.blk kv
    exact block_setCell (off := 2) h1 vv
  · refine ((SlIn.of_own hk).mono (B' := fun b => (fp b ∨ (w.heap.size ≤ b ∧ b < wr.heap.size)) ∧ b ≠ r) fun b h1 h2 => ⟨.inr ⟨h2, h1⟩, by omega⟩).keep (by omega) fun b hb' h => ht.block b hb' h.2
  · refine ((SlIn.of_own hv).mono (B' := fun b => (fp b ∨ (w.heap.size ≤ b ∧ b < wr.heap.size)) ∧ b ≠ r) fun b h1 h2 => ⟨.inr ⟨h2, h1⟩, by omega⟩).keep (by omega) fun b hb' h => ht.block b hb' h.2
  · rintro b (h | h)
    · have := H2.lt b h; omega
    · omega
  · refine (Turn.of_below hb).trans' ht fun i hi => .inl ?_
    rw [hi]; exact H.own
  · rintro b (h | h)
    · exact .inl h
    · exact .inr h.1
end

theorem place_calls {w : World} {r : Nat} {most hits misses gone : Int} {Kv Vv : Value} {ks vs : List ByteArray} {fp : Nat → Prop} (k : ByteArray) (H : RRep w r most Kv Vv ks vs hits misses gone fp) (hl : ks.length ≤ 1000000) :
    Calls Try.prog 53 #[ptr r, .string k] w fun x w' => (∃ p : Int, x = .returned (.int .i64 p) ∧ ((k ∉ ks ∧ p = -1) ∨ ∃ xs ys, ks = xs ++ k :: ys ∧ k ∉ xs ∧ p = xs.length)) ∧ w = w' := by
  have c1 : w.cell? ⟨r, 1, none⟩ = some Kv := H.field (by decide)
  obtain ⟨A, cap, rfl, hc, h⟩ := H.kin.strs
  have HC := Lib.hid h
  clear h H
  go_enter Try.func53, Try.ntmps53
  go_wp2
  go_loopw [5] (fun iv wr => ∃ i : Nat, iv = .int .i64 i ∧ i ≤ ks.length ∧ Hid (k ∉ ks.take i) ∧ w = wr) (fun iv _ => ks.length - (intOf iv).toNat)
  case atStart => exact ⟨0, rfl, by omega, Lib.hid (by simp), rfl⟩
  case round =>
    obtain ⟨i, rfl, hi', HI, rfl⟩ := hrel
    by_cases hlt : i < ks.length
    · obtain ⟨b, o, rfl, hb, hC1⟩ := HC.out (by omega)
      have c0 := hC1 i hlt
      clear hC1
      have HT := Lib.hid (show ks.take (i + 1) = ks.take i ++ [ks[i]] from List.take_succ_eq_append_getElem hlt)
      have HS := Lib.hid (show ks = ks.take i ++ ks[i] :: ks.drop (i + 1) by rw [← List.drop_eq_getElem_cons hlt, List.take_append_drop])
      have HM := Lib.hid (show (ks.take i).length = i by rw [List.length_take]; omega)
      obtain ⟨x, hx⟩ : ∃ x, x = ks[i] := ⟨_, rfl⟩
      rw [← hx] at c0 HT HS
      clear hx
      by_cases he : x = k
      · subst he
        have t1 := str_eq x
        go_wp2
        go_ret
        exact ⟨⟨_, rfl, .inr ⟨_, _, HS.out, HI.out, by rw [HM.out]⟩⟩, rfl⟩
      · have t1 := str_ne he
        have HN := Lib.hid (show k ∉ ks.take (i + 1) by
          rw [HT.out, List.mem_append]; rintro (h | h)
          · exact HI.out h
          · exact he (List.mem_singleton.1 h).symm)
        clear he HS HT
        go_wp2
        exact ⟨⟨i + 1, by go_num, by omega, HN, trivial⟩, by simp [intOf]; omega⟩
    · obtain rfl : i = ks.length := by omega
      have HF := Lib.hid (show k ∉ ks by have := HI.out; rwa [List.take_length] at this)
      go_wp2
      go_ret
      exact ⟨⟨_, rfl, .inl ⟨HF.out, rfl⟩⟩, rfl⟩
end Go.Proofs.Ytfkdmbiejledoaa
