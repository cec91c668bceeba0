/-
  The closure of text.digits: one step on the bits that are held.
-/
import Derived.Test.YtaghjiffmondjaaB1
import Derived.Test.YtaghjiffmondjaaReg
import Derived.Deep.AppendLies
set_option linter.unusedVariables false
set_option linter.unusedSimpArgs false
namespace Go.Proofs.Ytaghjiffmondjaa
open Go.RowKit
theorem ofInt_i64 (a : Nat) (ha : a < 9223372036854775808) : (BitVec.ofInt 64 (a : Int)).toNat = a := by
  rw [BitVec.ofInt_natCast, BitVec.toNat_ofNat]; exact Nat.mod_eq_of_lt (by omega)
theorem i64_and_nat (a b : Nat) (ha : a < 9223372036854775808) (hb : b < 9223372036854775808) : Go.bits .and .i64 (a : Int) (b : Int) = ((a &&& b : Nat) : Int) := by
  have hx : a &&& b < 2 ^ 63 := Nat.and_lt_two_pow _ (by omega)
  show IntKind.i64.wrap ((BitVec.ofInt 64 (a : Int) &&& BitVec.ofInt 64 (b : Int)).toNat : Int) = _
  rw [BitVec.toNat_and, ofInt_i64 a ha, ofInt_i64 b hb, IntKind.wrap_i64]
  omega
theorem i64_or_nat (a b : Nat) (ha : a < 9223372036854775808) (hb : b < 9223372036854775808) : Go.bits .or .i64 (a : Int) (b : Int) = ((a ||| b : Nat) : Int) := by
  have hx : a ||| b < 2 ^ 63 := Nat.or_lt_two_pow (by omega) (by omega)
  show IntKind.i64.wrap ((BitVec.ofInt 64 (a : Int) ||| BitVec.ofInt 64 (b : Int)).toNat : Int) = _
  rw [BitVec.toNat_or, ofInt_i64 a ha, ofInt_i64 b hb, IntKind.wrap_i64]
  omega
theorem info5 : (Try.prog.info? 5).map (fun i => (i.zero, i.size, i.bytes)) = some (some (.int .u8 0), 1, 1) := by kernel_rfl
def bv (c : UInt8) : Value := .int .u8 (c.toNat : Int)

theorem dig_or (held bits n d : Nat) (hh : held < 2 ^ n) (hn : n < 8) (hb : bits = 4 ∨ bits = 6) (hd0 : 0 < d) (hd : d ≤ 2 ^ bits) :
    Go.bits BinOp.or IntKind.i64 (wrap64 ((held : Int) * 2 ^ bits)) ((d : Int) - 1) = ((held * 2 ^ bits + (d - 1) : Nat) : Int) := by
  have h1 : held * 2 ^ bits < 2 ^ 14 := by
    have : held < 2 ^ 7 := Nat.lt_of_lt_of_le hh (Nat.pow_le_pow_right (by omega) (by omega))
    rcases hb with rfl | rfl <;> omega
  have e1 : ((held : Int) * 2 ^ bits) = ((held * 2 ^ bits : Nat) : Int) := by simp
  have e2 : (d : Int) - 1 = ((d - 1 : Nat) : Int) := by omega
  have hd2 : d ≤ 64 := by rcases hb with rfl | rfl <;> omega
  rw [e1, e2, show wrap64 ((held * 2 ^ bits : Nat) : Int) = ((held * 2 ^ bits : Nat) : Int) from by unfold wrap64; omega, i64_or_nat _ _ (by omega) (by omega)]
  congr 1
  rw [Nat.mul_comm, Nat.two_pow_add_eq_or_of_lt (by omega)]

theorem ownsRow_kept' {w w' : World} {B e size n : Nat} {v : Value} {xs : List Value} (h : w.ownsRow B e size v n xs) (hk : ∀ k, B ≤ k → k < w.heap.size → w'.heap[k]? = w.heap[k]?) : w'.ownsRow B e size v n xs := by
  refine ⟨h.1, ?_⟩
  rcases h.2 with hn | ⟨g, cap, cur, hv, hb, hg, rest⟩
  · exact .inl hn
  · exact .inr ⟨g, cap, cur, hv, hb, by rw [hk g hb (Array.getElem?_eq_some_iff.1 hg).1]; exact hg, rest⟩
theorem cell_alloc {w : World} {a : Addr} {v : Value} (h : w.cell? a = some v) (o : Obj) : (w.alloc o).cell? a = some v := by
  exact (World.cell?_of_block (Below.heap_alloc w o a.block (World.block_lt_of_cell? w a h))).trans h
theorem heap_alloc_keep {w : World} {k : Nat} {ob : Obj} (h : w.heap[k]? = some ob) (o : Obj) : (w.alloc o).heap[k]? = some ob := by
  rw [Below.heap_alloc w o k (Array.getElem?_eq_some_iff.1 h).1]; exact h
theorem grownBy_of_alloc {w w2 : World} {o : Obj} {row : Option Nat} (h : (w.alloc o).drew.grownBy w2 row) : w.grownBy w2 row :=
  ⟨h.os, h.tape, h.output, Nat.le_trans (by simp) h.size, fun k hk hne => (h.block k (by simp; omega) hne).trans (Below.heap_alloc w o k hk)⟩
theorem dig_and (q m : Nat) (hm : m < 6) (hq : q < 2 ^ 14) : Go.bits BinOp.and IntKind.i64 (q : Int) (wrap64 (wrap64 (2 ^ m) - 1)) = ((q % 2 ^ m : Nat) : Int) := by
  have h2 : 2 ^ m ≤ 64 := Nat.le_trans (Nat.pow_le_pow_right (by omega) (Nat.le_of_lt hm)) (by decide)
  have h1 : 1 ≤ 2 ^ m := Nat.one_le_two_pow
  have e : (2 : Int) ^ m = ((2 ^ m : Nat) : Int) := by simp
  have e2 : wrap64 (wrap64 (2 ^ m) - 1) = ((2 ^ m - 1 : Nat) : Int) := by rw [e]; unfold wrap64; omega
  rw [e2, i64_and_nat _ _ (by omega) (by omega), Nat.and_two_pow_sub_one_eq_mod]
structure DigW (b : Nat) (T : Array Value) (bits held n : Int) (xs : List UInt8) (w : World) (v : Value) : Prop where
  tab : w.heap[b]? = some (.cells T 62 (0, 0))
  bits : w.heap[b + 1]? = some (.cells #[.int .i64 bits] 3 (0, 0))
  out : w.heap[b + 2]? = some (.cells #[v] 52 (0, 0))
  held : w.heap[b + 3]? = some (.cells #[.int .i64 held] 3 (0, 0))
  n : w.heap[b + 4]? = some (.cells #[.int .i64 n] 3 (0, 0))
  owns : w.ownsRow (b + 5) 5 1 v xs.length (xs.map bv)

section
variable {b : Nat} {T : Array Value} {bits held n : Int} {xs : List UInt8} {w : World} {v : Value}
theorem DigW.drew (h : DigW b T bits held n xs w v) : DigW b T bits held n xs w.drew v := ⟨h.tab, h.bits, h.out, h.held, h.n, h.owns⟩
theorem DigW.setHeld (h : DigW b T bits held n xs w v) (x : Int) : DigW b T bits x n xs (w.setCell ⟨b + 3, 0, none⟩ (.int .i64 x)) v := by
  have o : ∀ k, k ≠ b + 3 → (w.setCell ⟨b + 3, 0, none⟩ (.int .i64 x)).heap[k]? = w.heap[k]? := fun k hk => heap_setCell_other w ⟨b + 3, 0, none⟩ k _ hk
  exact ⟨(o _ (by omega)).trans h.tab, (o _ (by omega)).trans h.bits, (o _ (by omega)).trans h.out, block_setCell h.held _, (o _ (by omega)).trans h.n, ownsRow_kept' h.owns fun k hk _ => o k (by omega)⟩
theorem DigW.setN (h : DigW b T bits held n xs w v) (x : Int) : DigW b T bits held x xs (w.setCell ⟨b + 4, 0, none⟩ (.int .i64 x)) v := by
  have o : ∀ k, k ≠ b + 4 → (w.setCell ⟨b + 4, 0, none⟩ (.int .i64 x)).heap[k]? = w.heap[k]? := fun k hk => heap_setCell_other w ⟨b + 4, 0, none⟩ k _ hk
  exact ⟨(o _ (by omega)).trans h.tab, (o _ (by omega)).trans h.bits, (o _ (by omega)).trans h.out, (o _ (by omega)).trans h.held, block_setCell h.n _, ownsRow_kept' h.owns fun k hk _ => o k (by omega)⟩
theorem DigW.lt (h : DigW b T bits held n xs w v) : b + 4 < w.heap.size := (Array.getElem?_eq_some_iff.1 h.n).1
theorem DigW.append {w2 : World} {v' : Value} {ys : List UInt8} (h : DigW b T bits held n xs w v) (hg : w.grownBy w2 v.ownBlock) (ho : w2.ownsRow (b + 5) 5 1 v' ys.length (ys.map bv)) :
    DigW b T bits held n ys (w2.setCell ⟨b + 2, 0, none⟩ v') v' := by
  have o : ∀ k, k ≠ b + 2 → (w2.setCell ⟨b + 2, 0, none⟩ v').heap[k]? = w2.heap[k]? := fun k hk => heap_setCell_other w2 ⟨b + 2, 0, none⟩ k _ hk
  have hl := h.lt
  have g : ∀ k, k < b + 5 → w2.heap[k]? = w.heap[k]? := fun k hk => hg.block k (by omega) (fun e => by have := (h.owns.lt k e.symm).1; omega)
  refine ⟨(o _ (by omega)).trans ((g _ (by omega)).trans h.tab), (o _ (by omega)).trans ((g _ (by omega)).trans h.bits), block_setCell ((g _ (by omega)).trans h.out) _, (o _ (by omega)).trans ((g _ (by omega)).trans h.held), (o _ (by omega)).trans ((g _ (by omega)).trans h.n), ownsRow_kept' ho fun k hk _ => o k (by omega)⟩
end

def digPs (b : Nat) : Array Value := #[.pointer (some ⟨b, 0, none⟩), .pointer (some ⟨b + 3, 0, none⟩), .pointer (some ⟨b + 1, 0, none⟩), .pointer (some ⟨b + 4, 0, none⟩), .pointer (some ⟨b + 2, 0, none⟩)]

set_option maxHeartbeats 1000000 in
theorem dig1_less (b : Nat) (T : Array Value) (bits held n : Nat) (xs : List UInt8) (w : World) (v : Value) (h : DigW b T bits held n xs w v)
    (c : UInt8) (d : Nat) (hd0 : 0 < d) (hd : d ≤ 2 ^ bits) (hc : T[c.toNat]? = some (.int .u8 d)) (hb : bits = 4 ∨ bits = 6) (hn : n < 8) (hh : held < 2 ^ n) (hless : n + bits < 8) :
    Calls Try.prog 55 (#[.int .u8 (c.toNat : Int)] ++ digPs b) w
      fun e w' => e = .returned (.bool true) ∧ DigW b T bits (held * 2 ^ bits + (d - 1) : Nat) (n + bits : Nat) xs w' v ∧ Below b w w' := by
  have hcn : (c.toNat : Int) < 256 := by have := c.toNat_lt; omega
  have hlt : b + 4 < w.heap.size := h.lt
  have c0 : w.cell? ⟨b, c.toNat, none⟩ = some (.int .u8 d) := by simp [World.cell?, h.tab, hc]
  have c1 : w.cell? ⟨b + 1, 0, none⟩ = some (.int .i64 bits) := by simp [World.cell?, h.bits]
  have c3 : w.cell? ⟨b + 3, 0, none⟩ = some (.int .i64 held) := by simp [World.cell?, h.held]
  have c4 : w.cell? ⟨b + 4, 0, none⟩ = some (.int .i64 n) := by simp [World.cell?, h.n]
  have f3 : w.frozen? ⟨b + 3, 0, none⟩ = false := frozen_of_block h.held
  have f4 : w.frozen? ⟨b + 4, 0, none⟩ = false := frozen_of_block h.n
  have e0 : ((d : Int) == 0) = false := by simp; omega
  have hor := dig_or held bits n d hh hn hb hd0 hd
  have hd64 : d ≤ 64 := by rcases hb with rfl | rfl <;> omega
  have ht : decide (8 ≤ (n : Int) + bits) = false := by simp; omega
  have H := Lib.hid h
  have HC := Lib.hid hc
  clear h hc hd hh
  unfold digPs
  go_enter Try.func55, Try.ntmps55
  go_wp2
  go_region
  go_wp2
  go_ret
  refine ⟨rfl, ?_, (((Below.refl _ _).setCell (by simp) _).setCell (by simp) _).drew⟩
  have e1 : ((held * 2 ^ bits + (d - 1) : Nat) : Int) = (held : Int) * 2 ^ bits + ((d - 1 : Nat) : Int) := by simp
  have e2 : ((n + bits : Nat) : Int) = (n : Int) + bits := by simp
  rw [e1, e2]
  exact ((H.out.setHeld _).setN _).drew

set_option maxHeartbeats 1000000 in
theorem dig1_no (b : Nat) (T : Array Value) (w : World) (hT : w.heap[b]? = some (.cells T 62 (0, 0)))
    (c : UInt8) (hc : T[c.toNat]? = some (.int .u8 0)) :
    Calls Try.prog 55 (#[.int .u8 (c.toNat : Int)] ++ digPs b) w
      fun e w' => e = .returned (.bool false) ∧ w = w' := by
  have hcn : (c.toNat : Int) < 256 := by have := c.toNat_lt; omega
  have c0 : w.cell? ⟨b, c.toNat, none⟩ = some (.int .u8 0) := by simp [World.cell?, hT, hc]
  clear hT hc
  unfold digPs
  go_enter Try.func55, Try.ntmps55
  go_wp2
  go_ret
  exact ⟨rfl, rfl⟩

set_option maxHeartbeats 1000000 in
theorem dig1_more (b : Nat) (T : Array Value) (bits held n : Nat) (xs : List UInt8) (w : World) (v : Value) (h : DigW b T bits held n xs w v) (hxs : xs.length < 140737488355328)
    (c : UInt8) (d : Nat) (hd0 : 0 < d) (hd : d ≤ 2 ^ bits) (hc : T[c.toNat]? = some (.int .u8 d)) (hb : bits = 4 ∨ bits = 6) (hn : n < 8) (hh : held < 2 ^ n) (hless : 8 ≤ n + bits) :
    Calls Try.prog 55 (#[.int .u8 (c.toNat : Int)] ++ digPs b) w
      fun e w' => ∃ v', e = .returned (.bool true) ∧ DigW b T bits ((held * 2 ^ bits + (d - 1)) % 2 ^ (n + bits - 8) : Nat) (n + bits - 8 : Nat) (xs ++ [UInt8.ofNat ((held * 2 ^ bits + (d - 1)) / 2 ^ (n + bits - 8))]) w' v' ∧ Below b w w' := by
  have hcn : (c.toNat : Int) < 256 := by have := c.toNat_lt; omega
  have hlt : b + 4 < w.heap.size := h.lt
  have c0 : w.cell? ⟨b, c.toNat, none⟩ = some (.int .u8 d) := by simp [World.cell?, h.tab, hc]
  have c1 : w.cell? ⟨b + 1, 0, none⟩ = some (.int .i64 bits) := by simp [World.cell?, h.bits]
  have c3 : w.cell? ⟨b + 3, 0, none⟩ = some (.int .i64 held) := by simp [World.cell?, h.held]
  have c4 : w.cell? ⟨b + 4, 0, none⟩ = some (.int .i64 n) := by simp [World.cell?, h.n]
  have f3 : w.frozen? ⟨b + 3, 0, none⟩ = false := frozen_of_block h.held
  have f4 : w.frozen? ⟨b + 4, 0, none⟩ = false := frozen_of_block h.n
  have e0 : ((d : Int) == 0) = false := by simp; omega
  have hor := dig_or held bits n d hh hn hb hd0 hd
  have hd64 : d ≤ 64 := by rcases hb with rfl | rfl <;> omega
  have ht : decide (8 ≤ (n : Int) + bits) = true := by simp; omega
  have hb2 : bits ≤ 6 := by omega
  obtain ⟨m, hm⟩ : ∃ m, m = n + bits - 8 := ⟨_, rfl⟩
  obtain ⟨q, hq⟩ : ∃ q, q = held * 2 ^ bits + (d - 1) := ⟨_, rfl⟩
  have hm6 : m < 6 := by omega
  have hq14 : q < 2 ^ 14 := by
    have : held < 2 ^ 7 := Nat.lt_of_lt_of_le hh (Nat.pow_le_pow_right (by omega) (by omega))
    rw [hq]; rcases hb with rfl | rfl <;> omega
  have h1 := (((h.setHeld ((held : Int) * 2 ^ bits + ((d - 1 : Nat) : Int))).setN ((n : Int) + bits)).setN ((n : Int) + bits - 8)).drew
  have hb1 : Below b w (((w.setCell ⟨b + 3, 0, none⟩ (.int .i64 ((held : Int) * 2 ^ bits + ((d - 1 : Nat) : Int)))).setCell ⟨b + 4, 0, none⟩ (.int .i64 ((n : Int) + bits))).setCell ⟨b + 4, 0, none⟩ (.int .i64 ((n : Int) + bits - 8))).drew :=
    ((((Below.refl _ _).setCell (by simp) _).setCell (by simp) _).setCell (by simp) _).drew
  rw [show (held : Int) * 2 ^ bits + ((d - 1 : Nat) : Int) = ((held * 2 ^ bits + (d - 1) : Nat) : Int) from by simp] at h1 hb1
  rw [show (n : Int) + bits - 8 = ((n + bits - 8 : Nat) : Int) from by omega] at h1 hb1
  rw [← hm, ← hq] at h1 hb1 ⊢
  have H1 := Lib.hid h1
  have HB1 := Lib.hid hb1
  have HC := Lib.hid hc
  have HB := Lib.hid hb
  have hwq : (held : Int) * 2 ^ bits + ((d - 1 : Nat) : Int) = (q : Int) := by rw [hq]; simp
  have hwm : (n : Int) + bits - 8 = (m : Int) := by omega
  obtain ⟨i0, hi, hz0, hz1, hz2⟩ := info_parts info5
  have HWQ := Lib.hid hwq
  have HWM := Lib.hid hwm
  clear h hc hd hh hb h1 hb1 hm hq hwq hwm
  unfold digPs
  go_enter Try.func55, Try.ntmps55
  go_wp2
  go_region
  go_wp2
  rw [HWQ.out, HWM.out]
  generalize (((w.setCell ⟨b + 3, 0, none⟩ (.int .i64 (q : Int))).setCell ⟨b + 4, 0, none⟩ (.int .i64 ((n : Int) + bits))).setCell ⟨b + 4, 0, none⟩ (.int .i64 (m : Int))).drew = w1 at H1 HB1 ⊢
  clear c0 c1 c3 c4 f3 f4 hor
  have h1 := H1.out
  have hlt1 : b + 4 < w1.heap.size := h1.lt
  have c2 : w1.cell? ⟨b + 2, 0, none⟩ = some v := by simp [World.cell?, h1.out]
  have c3 : w1.cell? ⟨b + 3, 0, none⟩ = some (.int .i64 q) := by simp [World.cell?, h1.held]
  have c4 : w1.cell? ⟨b + 4, 0, none⟩ = some (.int .i64 m) := by simp [World.cell?, h1.n]
  clear h1
  have f2 : w1.frozen? ⟨b + 2, 0, none⟩ = false := frozen_of_block H1.out.out
  refine wp_region_seq (fun w' => w'.cell? ⟨b + 2, 0, none⟩ = some v ∧ w'.cell? ⟨b + 3, 0, none⟩ = some (.int .i64 q) ∧ w'.cell? ⟨b + 4, 0, none⟩ = some (.int .i64 m)) [(0, false), (1, false), (2, false), (3, false), (4, false), (5, true), (6, true), (7, true)] (by kernel_rfl) (by kernel_rfl) (fun _ _ d _ _ h => by cases d <;> exact h) ⟨c2, c3, c4⟩ ?_
  repeat (refine seqH_held ?_ (by rfl) (by rfl) (fun w' ⟨s2, s3, s4⟩ => ?_) ?_; rotate_left; focus (go_simp; exact rfl))
  refine seqH_actS (by rfl) (by rfl) (fun K hK => ?_)
  go_wp2
  have hown : ((w1.alloc (Obj.cells #[Value.int IntKind.u8 ((q : Int) / 2 ^ m % 256)] 5)).drew).ownsRow (b + 5) 5 1 v xs.length (xs.map bv) := (H1.out.owns.alloc _).drew
  have hnew : ((w1.alloc (Obj.cells #[Value.int IntKind.u8 ((q : Int) / 2 ^ m % 256)] 5)).drew).cell? ⟨w1.heap.size, 0, none⟩ = some (Value.int IntKind.u8 ((q : Int) / 2 ^ m % 256)) := by go_simp
  refine hK _ _ ⟨cell_alloc c2 _, cell_alloc c3 _, cell_alloc c4 _⟩ ?_
  refine seqH_act (by kernel_rfl) (by rfl) (by rfl) (fun K2 hK2 => ?_)
  refine wp_append_lies _ (.tmp 28) (.tmp 33) 52 rfl (b + 5) 5 i0 (.int .u8 0) 1 1 Try.underlying52 hi hz0 hz1 hz2 rfl (by decide) v xs.length (xs.map bv) rfl hown ⟨w1.heap.size, 0, none⟩ 1 1 [Value.int IntKind.u8 ((q : Int) / 2 ^ m % 256)] rfl rfl ?hn (by intro u hu; simp at hu; subst hu; rfl) (by decide) (by unfold maxLen; omega) (by omega) (by simp; omega) _ rfl ?_
  case hn => exact cell_one_new _ _ _
  intro g cap w2 hown2 hgrow hat hltg
  have hne : ∀ k, k < b + 5 → some k ≠ v.ownBlock := fun k hk e => by have := (H1.out.owns.lt k e.symm).1; omega
  refine hK2 _ _ ?_
  have d2 : w2.cell? ⟨b + 2, 0, none⟩ = some v := hgrow.cell (cell_alloc c2 _) (hne _ (by simp))
  have g2 : w2.frozen? ⟨b + 2, 0, none⟩ = false := (World.frozen?_of_block (hgrow.block (b + 2) (by simp; omega) (hne _ (by omega)))).trans (frozen_of_block (heap_alloc_keep H1.out.out _))
  refine seqH_act (by kernel_rfl) (by rfl) (by rfl) (fun K3 hK3 => ?_)
  have HG := Lib.hid hgrow
  have HO := Lib.hid hown2
  clear hgrow hown2 hown hnew hne hat
  go_wp2
  refine seqH_nil ?_
  have h3 : DigW b T bits q m (xs ++ [UInt8.ofNat (q / 2 ^ m)]) (w2.setCell ⟨b + 2, 0, none⟩ (.slice (some ⟨g, 0, none⟩) (xs.length + 1) cap)) (.slice (some ⟨g, 0, none⟩) (xs.length + 1) cap) := by
    refine H1.out.append (grownBy_of_alloc HG.out) ?_
    have ho := HO.out
    have e : (xs ++ [UInt8.ofNat (q / 2 ^ m)]).map bv = xs.map bv ++ [Value.int IntKind.u8 ((q : Int) / 2 ^ m % 256)] := by
      simp [bv]
    rw [e, List.length_append]
    exact ho
  have hb3 : Below b w (w2.setCell ⟨b + 2, 0, none⟩ (.slice (some ⟨g, 0, none⟩) (xs.length + 1) cap)) :=
    (HB1.out.grown (grownBy_of_alloc HG.out) (by omega) (fun k hk => by have := (H1.out.owns.lt k hk).1; omega)).setCell (by simp) _
  have H3 := Lib.hid h3
  have HB3 := Lib.hid hb3
  clear h3 hb3 hK hK2 HG HO H1 HB1 d2 g2 c2 c3 c4 f2 hltg
  generalize (w2.setCell ⟨b + 2, 0, none⟩ (.slice (some ⟨g, 0, none⟩) (xs.length + 1) cap)) = w3 at H3 HB3 ⊢
  have c3 : w3.cell? ⟨b + 3, 0, none⟩ = some (.int .i64 q) := by simp [World.cell?, H3.out.held]
  have c4 : w3.cell? ⟨b + 4, 0, none⟩ = some (.int .i64 m) := by simp [World.cell?, H3.out.n]
  have f3 : w3.frozen? ⟨b + 3, 0, none⟩ = false := frozen_of_block H3.out.held
  go_wp2
  go_region
  go_wp2
  go_ret
  rw [dig_and q m hm6 hq14]
  exact ⟨_, rfl, (H3.out.setHeld _).drew, (HB3.out.setCell (by simp) _).drew⟩
end Go.Proofs.Ytaghjiffmondjaa
