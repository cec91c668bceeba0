import Derived.Test.YtblkehdpenfhjaaGreatDoorR2
import Derived.Shelf.Strings.Builder1
import Derived.Shelf.Strings.Builder2
import Derived.Shelf.Strings.OnBuilder
import Derived.Laws.ResultCell
import Derived.StringKeys
import Derived.Deep.DeepAppendRoom
set_option linter.unnecessarySimpa false
set_option linter.unusedVariables false
set_option linter.unusedSimpArgs false
/-
  Package sha: New, Hash.Sum, Sum, Cut.
-/
set_option linter.unusedVariables false
set_option linter.unusedSimpArgs false
namespace Go.Proofs.YtblkehdpenfhjaaGreatDoor
open Go.RowKit

def shaL (d : List UInt8) : List UInt8 := textN (stOf (d ++ padL d.length)) 8
theorem shaL_len (d : List UInt8) : (shaL d).length = 32 := textN_len _ 8
theorem padL_len (n : Nat) : (padL n).length ≤ 80 := by
  have : padK n < 64 := Nat.mod_lt _ (by decide)
  unfold padL
  rw [List.length_append, List.length_cons, List.length_replicate, beL_len]
  omega
set_option maxRecDepth 100000 in
theorem hashSum_calls (d : List UInt8) (hd : d.length ≤ 1152921504606846976) (hb : Nat) (w : World) (hG : Glob w) (hH : HashIs w hb d) :
    Calls Tryz.prog 357 #[.pointer (some ⟨hb, 0, none⟩)] w fun r w' => r = .returned (.string (mk (shaL d))) ∧ Below w.heap.size w w' := by
  have HG := Lib.hid hG
  have HH := Lib.hid hH
  have HLT := Lib.hid (show hb < w.heap.size by obtain ⟨_, h, _⟩ := hH; exact block_lt h)
  have HD := Lib.hid hd
  clear hG hH hd
  go_enter Tryz.func357, Tryz.ntmps357
  go_wp2_with fail
  refine (copy_calls d hb w HH.out).mono ?_
  rintro r w1 ⟨b, rfl, hb1, hb2, hH1, hbel⟩
  have c72 : w1.cell? ⟨hb, 72, none⟩ = some (.int .i64 (d.length : Int)) := by
    obtain ⟨rest, hblk, hrl, hrt⟩ := HH.out
    rw [hbel.cell (p := ⟨hb, 72, none⟩) HLT.out]
    exact HC_long hrl hblk
  have HB1 := Lib.hid (And.intro hb1 hb2)
  have HH1 := Lib.hid hH1
  have HBel := Lib.hid hbel
  obtain ⟨n, hn⟩ : ∃ n, n = d.length := ⟨_, rfl⟩
  have HN := Lib.hid hn
  rw [← hn] at c72
  clear hb1 hb2 hH1 hbel hn
  go_wp2_with fail
  refine (padding_calls n (by rw [HN.out]; exact HD.out) w1).mono ?_
  rintro r w2 ⟨rfl, hbel2⟩
  have HBel2 := Lib.hid hbel2
  have HH2 := Lib.hid (show HashIs w2 b d by
    obtain ⟨rest, hblk, hrl, hrt⟩ := HH1.out
    exact ⟨rest, (hbel2.block b HB1.out.2).trans hblk, hrl, hrt⟩)
  clear hbel2
  obtain ⟨p, hp⟩ : ∃ p, p = mk (padL n) := ⟨_, rfl⟩
  have HP := Lib.hid (show p.data.toList = padL n by rw [hp, mk_list])
  rw [← hp]
  clear hp
  have HPS := Lib.hid (show p.size ≤ 80 by
    have e : p.data.toList.length = p.size := by simp
    rw [← e, HP.out]; exact padL_len n)
  have HGB := Lib.hid (HG.out.new HB1.out.1)
  have HG2 := Lib.hid ((HG.out.keep HBel.out).keep HBel2.out)
  go_wp2_with fail
  refine (write_calls d p (by have := HD.out; have := HPS.out; unfold maxLen; omega) b HGB.out w2 HG2.out HH2.out).mono ?_
  rintro r w3 ⟨rfl, hH3, ht3⟩
  have HH3 := Lib.hid hH3
  have HBel3 := Lib.hid (show Below w.heap.size w w3 from
    ((HBel.out.trans (HBel2.out.mono HBel.out.size)).trans (ht3.below (fun k hk => by rw [hk]; exact HB1.out.1) (Nat.le_trans HBel.out.size HBel2.out.size))))
  clear hH3 ht3
  have HST := Lib.hid (show StAt w3 b 0 (stOf (d ++ p.data.toList)) ∧ b < w3.heap.size by
    obtain ⟨rest, hblk, hrl, hrt⟩ := HH3.out
    exact ⟨HC_st hblk, block_lt hblk⟩)
  go_wp2_with fail
  refine (text_calls _ (stOf_ok _) b w3 HST.out.1 HST.out.2).mono ?_
  rintro r w4 ⟨rfl, hbel4⟩
  have HBel4 := Lib.hid (HBel3.out.trans (hbel4.mono HBel3.out.size))
  clear hbel4
  have HE := Lib.hid (show textN (stOf (d ++ p.data.toList)) 8 = shaL d by unfold shaL; rw [HP.out, HN.out])
  go_wp2
  go_ret
  exact ⟨by rw [HE.out]; rfl, HBel4.out⟩
set_option maxRecDepth 100000 in
theorem new_calls (w : World) (hG : Glob w) :
    Calls Tryz.prog 355 #[] w fun r w' => ∃ b, r = .returned (.pointer (some ⟨b, 0, none⟩)) ∧ w.heap.size ≤ b ∧ HashIs w' b [] ∧ Below w.heap.size w w' := by
  obtain ⟨t, fr, hblk⟩ := hG.begin'
  have HB := Lib.hid hblk
  have H3 := Lib.hid (show (Tryz.prog.info? 371).map (·.size) = some (BEGL.map uv).toArray.size by kernel_rfl)
  clear hblk
  go_enter Tryz.func355, Tryz.ntmps355
  go_wp2_with (first | (refine wpList_load_row rfl 371 _ rfl _ rfl t _ fr _ HB.out Tryz.underlying371 rfl H3.out ?_))
  have e : List.foldl (fun (cs : Array Value) (x : Value × Nat) => cs.setIfInBounds x.snd x.fst) Tryz.zeroCells374 (List.map uv BEGL).zipIdx = HC (stOf []) (List.replicate 64 0) ([] : List UInt8).length := by kernel_rfl
  rw [e]
  go_ret
  exact ⟨w.heap.size, rfl, Nat.le_refl _, ⟨List.replicate 64 0, (MapKept.heap_alloc w _).1, rfl, rfl⟩, (Below.refl _ _).alloc (Nat.le_refl _) _⟩
set_option maxRecDepth 100000 in
theorem sum_calls (x : ByteArray) (hx : x.size ≤ 1152921504606846976) (w : World) (hG : Glob w) :
    Calls Tryz.prog 318 #[.string x] w fun r w' => r = .returned (.string (mk (shaL x.data.toList))) ∧ Below w.heap.size w w' := by
  have HG := Lib.hid hG
  have HX := Lib.hid hx
  clear hG hx
  go_enter Tryz.func318, Tryz.ntmps318
  go_wp2_with fail
  refine (new_calls w HG.out).mono ?_
  rintro r w1 ⟨b, rfl, hb1, hH1, hbel⟩
  have HB1 := Lib.hid hb1
  have HH1 := Lib.hid hH1
  have HBel := Lib.hid hbel
  clear hb1 hH1 hbel
  go_wp2_with fail
  refine (write_calls [] x (by have := HX.out; unfold maxLen; simp; omega) b (HG.out.new HB1.out) w1 (HG.out.keep HBel.out) HH1.out).mono ?_
  rintro r w2 ⟨rfl, hH2, ht2⟩
  rw [List.nil_append] at hH2
  have HH2 := Lib.hid hH2
  have HBel2 := Lib.hid (HBel.out.trans (ht2.below (fun k hk => by rw [hk]; exact HB1.out) HBel.out.size))
  clear hH2 ht2
  go_wp2_with fail
  refine (hashSum_calls x.data.toList (by have := HX.out; have e : x.data.toList.length = x.size := by simp
                                          omega) b w2 (HG.out.keep HBel2.out) HH2.out).mono ?_
  rintro r w3 ⟨rfl, hbel3⟩
  have HBel3 := Lib.hid (HBel2.out.trans (hbel3.mono HBel2.out.size))
  clear hbel3
  go_wp2
  go_ret
  exact ⟨rfl, HBel3.out⟩
/-- what Cut takes n for -/
def cutN (n : Int) : Nat := if n < 1 ∨ 32 < n then 32 else n.toNat
set_option maxRecDepth 100000 in
theorem cut_calls (x : ByteArray) (hx : x.size ≤ 1152921504606846976) (n : Int) (w : World) (hG : Glob w) :
    Calls Tryz.prog 271 #[.string x, .int .i64 n] w fun r w' => r = .returned (.string (mk ((shaL x.data.toList).take (cutN n)))) ∧ Below w.heap.size w w' := by
  have HG := Lib.hid hG
  have HX := Lib.hid hx
  clear hG hx
  obtain ⟨y, hy⟩ : ∃ y, y = mk (shaL x.data.toList) := ⟨_, rfl⟩
  have HY := Lib.hid hy
  have hys : y.size = 32 := by rw [hy, mk_size, shaL_len]
  have hext : ∀ k, y.extract 0 k = mk ((shaL x.data.toList).take k) := fun k => bytes_ext (by rw [extract_list, hy, mk_list, mk_list]; rfl)
  have HE := Lib.hid hext
  clear hy hext
  have HS := Lib.hid (show ∀ w, Glob w → Calls Tryz.prog 318 #[.string x] w fun r w' => r = .returned (.string y) ∧ Below w.heap.size w w' from fun w h => by rw [HY.out]; exact sum_calls x HX.out w h)
  go_enter Tryz.func271, Tryz.ntmps271
  by_cases h1 : n < 1
  · have HC := Lib.hid (show cutN n = 32 by unfold cutN; rw [if_pos (.inl h1)])
    go_wp2_with fail
    refine (HS.out w HG.out).mono ?_
    rintro r w1 ⟨rfl, hb⟩
    have HB := Lib.hid hb
    clear hb
    go_wp2
    go_ret
    exact ⟨by rw [HC.out, ← HE.out]; rfl, HB.out⟩
  · by_cases h2 : 32 < n
    · have HC := Lib.hid (show cutN n = 32 by unfold cutN; rw [if_pos (.inr h2)])
      go_wp2_with fail
      refine (HS.out w HG.out).mono ?_
      rintro r w1 ⟨rfl, hb⟩
      have HB := Lib.hid hb
      clear hb
      go_wp2
      go_ret
      exact ⟨by rw [HC.out, ← HE.out]; rfl, HB.out⟩
    · obtain ⟨k, rfl⟩ : ∃ k : Nat, n = k := ⟨n.toNat, by omega⟩
      have HC := Lib.hid (show cutN (k : Int) = k by unfold cutN; rw [if_neg (by omega)]; rfl)
      have k1 : ¬ ((k : Int) < 1) := h1
      have k2 : decide ((k : Int) < 1) = false := decide_eq_false h1
      have k3 : decide (32 < (k : Int)) = false := decide_eq_false h2
      have hk32 : k ≤ 32 := by omega
      clear h1
      go_wp2_with fail
      refine (HS.out w HG.out).mono ?_
      rintro r w1 ⟨rfl, hb⟩
      have HB := Lib.hid hb
      clear hb
      go_wp2
      go_ret
      exact ⟨by rw [HC.out, ← HE.out]; rfl, HB.out⟩
end Go.Proofs.YtblkehdpenfhjaaGreatDoor
/-
  strings.Join by the shelf's contract: the table of numbers and its facts. No conditions.
-/
set_option linter.unusedVariables false
namespace Go.Proofs.YtblkehdpenfhjaaGreatDoor
open Go.RowKit Go.Shelf

def renJ : Ren where
  f := fun x => match x with
    | 156 => 272
    | 165 => 319
    | 166 => 75
    | 169 => 79
    | 240 => 140
    | 241 => 358
    | 276 => 214
    | 277 => 372
    | 167 => 77
    | n => n
  t := fun x => match x with
    | 31 => 32
    | 9 => 9
    | 3 => 3
    | 4 => 4
    | 0 => 0
    | 20 => 20
    | 72 => 110
    | 76 => 113
    | 70 => 107
    | 37 => 108
    | 75 => 112
    | 127 => 184
    | 164 => 236
    | 5 => 5
    | 80 => 48
    | n => n
  g := fun n => n
set_option maxRecDepth 100000 in
theorem laysJ : Lays.n156 Tryz.prog renJ where
  mixed := by kernel_rfl
  f156 := Eq.trans Tryz.func272 (congrArg some (by kernel_rfl))
  f165 := Eq.trans Tryz.func319 (congrArg some (by kernel_rfl))
  f166 := Eq.trans Tryz.func75 (congrArg some (by kernel_rfl))
  f169 := Eq.trans Tryz.func79 (congrArg some (by kernel_rfl))
  f240 := Eq.trans Tryz.func140 (congrArg some (by kernel_rfl))
  f241 := Eq.trans Tryz.func358 (congrArg some (by kernel_rfl))
  f276 := Eq.trans Tryz.func214 (congrArg some (by kernel_rfl))
  f277 := Eq.trans Tryz.func372 (congrArg some (by kernel_rfl))
  t0 := Tryz.underlying0
  a0 := Tryz.isAgg0
  z0 := Tryz.sizeOf0
  v0 := Tryz.zeroValue0
  t3 := Tryz.underlying3
  a3 := Tryz.isAgg3
  z3 := Tryz.sizeOf3
  v3 := Tryz.zeroValue3
  t4 := Tryz.underlying4
  a4 := Tryz.isAgg4
  z4 := Tryz.sizeOf4
  v4 := Tryz.zeroValue4
  t9 := Tryz.underlying9
  a9 := Tryz.isAgg9
  z9 := Tryz.sizeOf9
  v9 := Tryz.zeroValue9
  t20 := Tryz.underlying20
  a20 := Tryz.isAgg20
  z20 := Tryz.sizeOf20
  v20 := Tryz.zeroValue20
  t31 := Tryz.underlying32
  a31 := Tryz.isAgg32
  z31 := Tryz.sizeOf32
  v31 := Tryz.zeroValue32
  t37 := Tryz.underlying108
  a37 := Tryz.isAgg108
  z37 := Tryz.sizeOf108
  v37 := Tryz.zeroValue108
  t70 := Tryz.underlying107
  a70 := Tryz.isAgg107
  z70 := Tryz.sizeOf107
  v70 := Tryz.zeroValue107
  t72 := Tryz.underlying110
  a72 := Tryz.isAgg110
  z72 := Tryz.sizeOf110
  v72 := Tryz.zeroValue110
  t75 := Tryz.underlying112
  a75 := Tryz.isAgg112
  z75 := Tryz.sizeOf112
  v75 := Tryz.zeroValue112
  t76 := Tryz.underlying113
  a76 := Tryz.isAgg113
  z76 := Tryz.sizeOf113
  v76 := Tryz.zeroValue113
  t127 := Tryz.underlying184
  a127 := Tryz.isAgg184
  z127 := Tryz.sizeOf184
  v127 := Tryz.zeroValue184
  t164 := Tryz.underlying236
  a164 := Tryz.isAgg236
  z164 := Tryz.sizeOf236
  v164 := Tryz.zeroValue236
theorem laysWS : Lays.n166 Tryz.prog renJ := { laysJ with }
theorem laysS : Lays.n169 Tryz.prog renJ := { laysJ with }
theorem laysWB : Lays.n167 Tryz.prog renJ := { laysJ with f167 := Eq.trans Tryz.func77 (congrArg some (by kernel_rfl)), t5 := Tryz.underlying5, a5 := Tryz.isAgg5, z5 := Tryz.sizeOf5, v5 := Tryz.zeroValue5 }
set_option maxRecDepth 100000 in
theorem extraJ : Builder.Extra Tryz.prog renJ where
  sizeBuilder := by kernel_rfl
  liesBuilder := by kernel_rfl
  t5 := Tryz.underlying5
  a5 := Tryz.isAgg5
  z5 := Tryz.sizeOf5
  v5 := Tryz.zeroValue5
  infoByte := by kernel_rfl
  cellsByte := by kernel_rfl
  sizeByte := by kernel_rfl
  neB5 := by decide
theorem join_none (a : Option Addr) (c : Nat) (sep : ByteArray) (w : World) :
    Calls Tryz.prog 272 #[.slice a 0 c, .string sep] w fun e w' => e = .returned (.string ⟨#[]⟩) ∧ w' = w := Any.strings_Join_none laysJ extraJ a c sep w
theorem join_calls (bk o c : Nat) (xs : List ByteArray) (sep : ByteArray) (w : World)
    (hcells : ∀ (j : Nat) x, xs[j]? = some x → w.cell? ⟨bk, o + j, none⟩ = some (.string x))
    (hbk : bk < w.heap.size) (hN : xs.length ≤ 140737488355328) (hcap : xs.length ≤ c)
    (hlen : (Lib.join (xs.map (·.data.toList)) sep.data.toList).length ≤ 140737488355328) :
    Calls Tryz.prog 272 #[.slice (some ⟨bk, o, none⟩) xs.length c, .string sep] w fun e w' => e = .returned (.string ⟨(Lib.join (xs.map (·.data.toList)) sep.data.toList).toArray⟩) ∧ Below w.heap.size w w' := Any.strings_Join laysJ extraJ bk o c xs sep w hcells hbk hN hcap hlen
theorem writeString_calls (B b : Nat) (bs : List Value) (s : ByteArray) (w : World) (h : Lib.IsBuilder 110 5 B b bs w) (hlen : bs.length + s.size ≤ 140737488355328) (hBw : B ≤ w.heap.size) :
    Calls Tryz.prog 75 #[.pointer (some ⟨b, 0, none⟩), .string s] w fun e w' => e = .returned (.tuple #[.int .i64 s.size, .nilIface]) ∧ (Lib.BuilderAt 110 5 B b (.pointer (some ⟨b, 0, none⟩)) (bs ++ Lib.strCells s) w' ∧ Below B w w') := Any.Builder_WriteString laysWS extraJ B b bs s w h hlen hBw
theorem writeByte_calls (B b : Nat) (bs : List Value) (c : Int) (w : World) (h : Lib.IsBuilder 110 5 B b bs w) (hlen : bs.length + 1 ≤ 140737488355328) (hBw : B ≤ w.heap.size) :
    Calls Tryz.prog 77 #[.pointer (some ⟨b, 0, none⟩), .int .u8 c] w fun e w' => e = .returned .nilIface ∧ (Lib.BuilderAt 110 5 B b (.pointer (some ⟨b, 0, none⟩)) (bs ++ [.int .u8 c]) w' ∧ Below B w w') := Any.Builder_WriteByte laysWB extraJ B b bs c w h hlen hBw
theorem string_calls (B b : Nat) (l : List UInt8) (w : World) (h : Lib.IsBuilder 110 5 B b (Lib.byteCells l) w) (hBw : B ≤ w.heap.size) :
    Calls Tryz.prog 79 #[.pointer (some ⟨b, 0, none⟩)] w fun e w' => e = .returned (.string ⟨l.toArray⟩) ∧ Below B w w' := Any.Builder_String_any laysS extraJ B b l w h hBw
end Go.Proofs.YtblkehdpenfhjaaGreatDoor
/-
  Package tree: Empty, Leaf, Node.
-/
set_option linter.unusedVariables false
set_option linter.unusedSimpArgs false
namespace Go.Proofs.YtblkehdpenfhjaaGreatDoor
open Go.RowKit

def hashF (n : Int) (d : List UInt8) : List UInt8 := (shaL d).take (cutN n)
theorem hashF_len (n : Int) (d : List UInt8) : (hashF n d).length ≤ 32 := by
  unfold hashF
  rw [List.length_take, shaL_len]
  omega
set_option maxRecDepth 100000 in
theorem hashed_calls (n : Int) (bk o c : Nat) (xs : List ByteArray) (w : World) (hG : Glob w)
    (hcells : ∀ (j : Nat) x, xs[j]? = some x → w.cell? ⟨bk, o + j, none⟩ = some (.string x))
    (hbk : bk < w.heap.size) (hN : xs.length ≤ 140737488355328) (hcap : xs.length ≤ c)
    (hlen : (Lib.join (xs.map (·.data.toList)) []).length ≤ 140737488355328) :
    Calls Tryz.prog 206 #[.int .i64 n, .slice (some ⟨bk, o, none⟩) xs.length c] w fun r w' => r = .returned (.string (mk (hashF n (Lib.join (xs.map (·.data.toList)) [])))) ∧ Below w.heap.size w w' := by
  have HG := Lib.hid hG
  have HL := Lib.hid hlen
  have HJ := Lib.hid (join_calls bk o c xs ⟨#[]⟩ w hcells hbk hN hcap hlen)
  obtain ⟨m, hm⟩ : ∃ m, m = xs.length := ⟨_, rfl⟩
  obtain ⟨y, hy⟩ : ∃ y, y = mk (Lib.join (xs.map (·.data.toList)) []) := ⟨_, rfl⟩
  have HY := Lib.hid (show y.data.toList = Lib.join (xs.map (·.data.toList)) [] by rw [hy, mk_list])
  have HYS := Lib.hid (show y.size ≤ 140737488355328 by rw [hy, mk_size]; exact hlen)
  have HJ2 := Lib.hid (show Calls Tryz.prog 272 #[.slice (some ⟨bk, o, none⟩) m c, .string ⟨#[]⟩] w fun e w' => e = .returned (.string y) ∧ Below w.heap.size w w' by rw [hm, hy]; exact HJ.out)
  rw [← HY.out, ← hm]
  clear hG hlen hm hy hcells hN hcap HJ
  go_enter Tryz.func206, Tryz.ntmps206
  go_wp2_with fail
  refine (HJ2.out).mono ?_
  rintro r w1 ⟨rfl, hb1⟩
  have HB1 := Lib.hid hb1
  clear hb1
  go_wp2_with fail
  refine (cut_calls y (by have := HYS.out; omega) n w1 (HG.out.keep HB1.out)).mono ?_
  rintro r w2 ⟨rfl, hb2⟩
  have HB2 := Lib.hid (HB1.out.trans (hb2.mono HB1.out.size))
  clear hb2
  go_wp2
  go_ret
  exact ⟨rfl, HB2.out⟩
set_option maxRecDepth 100000 in
theorem empty_calls (n : Int) (w : World) (hG : Glob w) :
    Calls Tryz.prog 145 #[.int .i64 n] w fun r w' => r = .returned (.string (mk (hashF n []))) ∧ Below w.heap.size w w' := by
  have HG := Lib.hid hG
  clear hG
  have hh : Calls Tryz.prog 206 #[.int .i64 n, .slice none 0 0] w fun r w' => r = .returned (.string (mk (hashF n []))) ∧ Below w.heap.size w w' := by
    go_enter Tryz.func206, Tryz.ntmps206
    go_wp2_with fail
    refine (join_none none 0 ⟨#[]⟩ w).mono ?_
    rintro r w1 ⟨rfl, rfl⟩
    go_wp2_with fail
    refine (cut_calls ⟨#[]⟩ (by decide) n w1 HG.out).mono ?_
    rintro r w2 ⟨rfl, hb2⟩
    have HB2 := Lib.hid hb2
    clear hb2
    go_wp2
    go_ret
    exact ⟨rfl, HB2.out⟩
  have HH := Lib.hid hh
  clear hh
  go_enter Tryz.func145, Tryz.ntmps145
  go_wp2_with fail
  refine (HH.out).mono ?_
  rintro r w2 ⟨rfl, hb2⟩
  have HB2 := Lib.hid hb2
  clear hb2
  go_wp2
  go_ret
  exact ⟨rfl, HB2.out⟩
theorem join_two (a b : List UInt8) : Lib.join [a, b] [] = a ++ b := by rw [Lib.join_cons]; simp [Lib.joinTail]
theorem join_three (a b c : List UInt8) : Lib.join [a, b, c] [] = a ++ b ++ c := by rw [Lib.join_cons]; simp [Lib.joinTail]
set_option maxRecDepth 100000 in
theorem leaf_calls (n : Int) (x : ByteArray) (hx : x.size ≤ 70368744177664) (w : World) (hG : Glob w) :
    Calls Tryz.prog 146 #[.int .i64 n, .string x] w fun r w' => r = .returned (.string (mk (hashF n (0 :: x.data.toList)))) ∧ Below w.heap.size w w' := by
  have HG := Lib.hid hG
  have HX := Lib.hid hx
  clear hG hx
  obtain ⟨w1, hw1⟩ : ∃ w1, w1 = w.alloc (.cells #[.string ⟨#[0]⟩, .string x] 9) := ⟨_, rfl⟩
  have hb1 : Below w.heap.size w w1 := by rw [hw1]; exact (Below.refl _ _).alloc (Nat.le_refl _) _
  have hblk : w1.heap[w.heap.size]? = some (.cells #[.string ⟨#[0]⟩, .string x] 9 (0, 0)) := by rw [hw1]; exact (MapKept.heap_alloc w _).1
  have HH := Lib.hid (hashed_calls n w.heap.size 0 2 [⟨#[0]⟩, x] w1 (HG.out.keep hb1) (fun j y hj => by
    match j, hj with
    | 0, hj => injection hj with hj; subst hj; exact cell_of_block hblk (by show 0 < 2; decide)
    | 1, hj => injection hj with hj; subst hj; exact cell_of_block hblk (by show 1 < 2; decide)) (block_lt hblk) (by simp) (Nat.le_refl _) (by
      show (Lib.join [[0], x.data.toList] []).length ≤ _
      rw [join_two]
      have := HX.out
      simp; omega))
  have HB1 := Lib.hid hb1
  clear hblk hb1
  go_enter Tryz.func146, Tryz.ntmps146
  go_wp2_with fail
  rw [← hw1]
  refine (HH.out).mono ?_
  rintro r w2 ⟨rfl, hb2⟩
  have HB2 := Lib.hid (HB1.out.trans (hb2.mono HB1.out.size))
  clear hb2 hw1
  go_wp2
  go_ret
  exact ⟨by rw [show Lib.join [[0], x.data.toList] [] = 0 :: x.data.toList from join_two [0] x.data.toList]; rfl, HB2.out⟩
set_option maxRecDepth 100000 in
theorem node_calls (n : Int) (x y : ByteArray) (hx : x.size ≤ 35184372088832) (hy : y.size ≤ 35184372088832) (w : World) (hG : Glob w) :
    Calls Tryz.prog 132 #[.int .i64 n, .string x, .string y] w fun r w' => r = .returned (.string (mk (hashF n (1 :: (x.data.toList ++ y.data.toList))))) ∧ Below w.heap.size w w' := by
  have HG := Lib.hid hG
  have HX := Lib.hid hx
  have HY := Lib.hid hy
  clear hG hx hy
  obtain ⟨w1, hw1⟩ : ∃ w1, w1 = w.alloc (.cells #[.string ⟨#[1]⟩, .string x, .string y] 9) := ⟨_, rfl⟩
  have hb1 : Below w.heap.size w w1 := by rw [hw1]; exact (Below.refl _ _).alloc (Nat.le_refl _) _
  have hblk : w1.heap[w.heap.size]? = some (.cells #[.string ⟨#[1]⟩, .string x, .string y] 9 (0, 0)) := by rw [hw1]; exact (MapKept.heap_alloc w _).1
  have HH := Lib.hid (hashed_calls n w.heap.size 0 3 [⟨#[1]⟩, x, y] w1 (HG.out.keep hb1) (fun j y hj => by
    match j, hj with
    | 0, hj => injection hj with hj; subst hj; exact cell_of_block hblk (by show 0 < 3; decide)
    | 1, hj => injection hj with hj; subst hj; exact cell_of_block hblk (by show 1 < 3; decide)
    | 2, hj => injection hj with hj; subst hj; exact cell_of_block hblk (by show 2 < 3; decide)) (block_lt hblk) (by simp) (Nat.le_refl _) (by
      show (Lib.join [[1], x.data.toList, y.data.toList] []).length ≤ _
      rw [join_three]
      have := HX.out
      have := HY.out
      simp; omega))
  have HB1 := Lib.hid hb1
  clear hblk hb1
  go_enter Tryz.func132, Tryz.ntmps132
  go_wp2_with fail
  rw [← hw1]
  refine (HH.out).mono ?_
  rintro r w2 ⟨rfl, hb2⟩
  have HB2 := Lib.hid (HB1.out.trans (hb2.mono HB1.out.size))
  clear hb2 hw1
  go_wp2
  go_ret
  exact ⟨by rw [show Lib.join [[1], x.data.toList, y.data.toList] [] = 1 :: (x.data.toList ++ y.data.toList) from join_three [1] x.data.toList y.data.toList]; rfl, HB2.out⟩
end Go.Proofs.YtblkehdpenfhjaaGreatDoor
/-
  Package tree: Valid, Span, Left, Right.
-/
set_option linter.unusedVariables false
set_option linter.unusedSimpArgs false
namespace Go.Proofs.YtblkehdpenfhjaaGreatDoor
open Go.RowKit

theorem below_drewN {B : Nat} {a w : World} (h : Below B a w) (n : Nat) : Below B a (w.drewN n) := ⟨h.os, h.tape, h.output, h.size, h.block⟩
theorem results_cell_row_tmp {P : Program} {fn : Func} {p u : Tmp} {ty : TypeId} (h : fn.results = #[.cell p ty, .tmp u]) (tmps : Array Value) (w : World) (g : Nat) (t : TypeId) (cs : Array Value) (fr : Nat × Nat) (d : TypeDesc)
    (hp : tmps.getD p undef = .pointer (some ⟨g, 0, none⟩)) (hg : w.heap[g]? = some (.cells cs t fr)) (hu : P.underlying ty = some d) (hd : (match d with | .struct _ | .array _ _ => true | _ => false) = true) (hi : (P.info? ty).map (·.size) = some cs.size) :
    (results fn tmps).run P w = .ok (.tuple #[.agg cs, tmps.getD u undef]) w := by
  rw [results_cell_tmp h, hp]
  simp [asAddr, run_loadVar_row w g t ty cs fr d hg hu hd hi, Result.andThen]
/-- a place: level and index -/
def plV (l i : Nat) : Value := .agg #[.int .i64 (l : Int), .int .i64 (i : Int)]
def PlOk (l i : Nat) : Prop := l ≤ 62 ∧ (i + 1) * 2 ^ l ≤ 4611686018427387904
set_option maxHeartbeats 2000000 in
set_option maxRecDepth 100000 in
theorem valid_calls (l i : Nat) (h : PlOk l i) (w : World) :
    Calls Tryz.prog 129 #[plV l i] w fun r w' => r = .returned (.bool true) ∧ Below w.heap.size w w' := by
  obtain ⟨hl, hi⟩ := h
  have hi2 : i < 4611686018427387904 := by have := Nat.one_le_two_pow (n := l); have := Nat.mul_le_mul_left (i + 1) this; omega
  have hlt : (i : Int) < 4611686018427387904 / 2 ^ l := by
    have h1 : i + 1 ≤ 4611686018427387904 / 2 ^ l := (Nat.le_div_iff_mul_le (Nat.two_pow_pos l)).2 hi
    have : (4611686018427387904 : Int) / 2 ^ l = ((4611686018427387904 / 2 ^ l : Nat) : Int) := by simp
    omega
  have HI := Lib.hid hi
  have HL := Lib.hid hlt
  clear hi hlt
  unfold plV
  go_enter Tryz.func129, Tryz.ntmps129
  have k1 : (l : Int) ≤ 64 := by omega
  have k2 : (l : Int) ≤ 62 := by omega
  have k3 : decide ((l : Int) ≤ 62) = true := decide_eq_true k2
  have k6 : decide (l ≤ 62) = true := decide_eq_true hl
  have k4 := HL.out
  have k5 : decide ((i : Int) < 4611686018427387904 / 2 ^ l) = true := decide_eq_true k4
  go_wp2
  go_quiet (fail)
  have HB := Lib.hid (below_drewN ((Below.refl w.heap.size w).alloc (Nat.le_refl _) (.cells #[.int .i64 (l : Int), .int .i64 (i : Int)] 42)) nq)
  go_wp2
  go_ret
  exact ⟨rfl, HB.out⟩
set_option maxHeartbeats 2000000 in
set_option maxRecDepth 100000 in
theorem span_calls (l i : Nat) (h : PlOk l i) (w : World) :
    Calls Tryz.prog 59 #[plV l i] w fun r w' => r = .returned (.tuple #[.int .i64 ((i * 2 ^ l : Nat) : Int), .int .i64 (((i + 1) * 2 ^ l : Nat) : Int), .int .i64 0]) ∧ Below w.heap.size w w' := by
  have HV := Lib.hid fun w => valid_calls l i h w
  obtain ⟨hl, hi⟩ := h
  obtain ⟨A, hA⟩ : ∃ A, A = i * 2 ^ l := ⟨_, rfl⟩
  obtain ⟨B, hB⟩ : ∃ B, B = (i + 1) * 2 ^ l := ⟨_, rfl⟩
  have hi2 : i < 4611686018427387904 := by have := Nat.one_le_two_pow (n := l); have := Nat.mul_le_mul_left (i + 1) this; omega
  have hAB : A ≤ B := by rw [hA, hB]; exact Nat.mul_le_mul_right _ (Nat.le_succ i)
  have hA2 : (i : Int) * 2 ^ l = (A : Int) := by rw [hA]; simp
  have hB2 : ((i : Int) + 1) * 2 ^ l = (B : Int) := by rw [hB]; simp
  have hB3 : B ≤ 4611686018427387904 := by rw [hB]; exact hi
  rw [← hA, ← hB]
  clear hA hB hi
  unfold plV
  have k1 : (l : Int) ≤ 64 := by omega
  go_enter Tryz.func59, Tryz.ntmps59
  go_upto_region 1 with (fail)
  obtain ⟨w0, hw0⟩ : ∃ w0, w0 = w.alloc (.cells #[.int .i64 (l : Int), .int .i64 (i : Int)] 42) := ⟨_, rfl⟩
  have c0 : w0.cell? ⟨w.heap.size, 0, none⟩ = some (.int .i64 (l : Int)) := by rw [hw0]; exact cell_of_block (MapKept.heap_alloc w _).1 (by show 0 < 2; decide)
  have c1 : w0.cell? ⟨w.heap.size, 1, none⟩ = some (.int .i64 (i : Int)) := by rw [hw0]; exact cell_of_block (MapKept.heap_alloc w _).1 (by show 1 < 2; decide)
  have HB0 := Lib.hid (show Below w.heap.size w w0 ∧ w.heap.size < w0.heap.size by rw [hw0]; exact ⟨(Below.refl _ _).alloc (Nat.le_refl _) _, by simp⟩)
  rw [← hw0]
  clear hw0
  go_wp2_with fail
  refine (HV.out w0).mono ?_
  rintro r w1 ⟨rfl, hb1⟩
  have d0 : w1.cell? ⟨w.heap.size, 0, none⟩ = some (.int .i64 (l : Int)) := (hb1.cell (p := ⟨w.heap.size, 0, none⟩) HB0.out.2).trans c0
  have d1 : w1.cell? ⟨w.heap.size, 1, none⟩ = some (.int .i64 (i : Int)) := (hb1.cell (p := ⟨w.heap.size, 1, none⟩) HB0.out.2).trans c1
  have HB1 := Lib.hid (HB0.out.1.trans (hb1.mono HB0.out.1.size))
  clear hb1 c0 c1
  go_wp2
  go_quiet (fail)
  have HB := Lib.hid (below_drewN HB1.out nq)
  go_wp2
  go_ret3
  exact ⟨rfl, HB.out⟩
set_option maxHeartbeats 2000000 in
set_option maxRecDepth 100000 in
theorem kin_calls (l i m j : Nat) (h : PlOk l i) (h2 : PlOk m j) (w : World) :
    Calls Tryz.prog 205 #[plV l i, plV m j] w fun r w' => r = .returned (.tuple #[plV m j, .int .i64 0]) ∧ Below w.heap.size w w' := by
  have HV := Lib.hid fun w => valid_calls l i h w
  have HV2 := Lib.hid fun w => valid_calls m j h2 w
  clear h h2
  unfold plV at HV HV2 ⊢
  go_enter Tryz.func205, Tryz.ntmps205
  go_upto_region 1 with (fail)
  obtain ⟨w0, hw0⟩ : ∃ w0, w0 = ((w.alloc (.cells #[.int .i64 (l : Int), .int .i64 (i : Int)] 42)).alloc (.cells #[.int .i64 (m : Int), .int .i64 (j : Int)] 42)).alloc (.cells #[.int .i64 0, .int .i64 0] 42) := ⟨_, rfl⟩
  have q1 : w0.heap[w.heap.size]? = some (.cells #[.int .i64 (l : Int), .int .i64 (i : Int)] 42 (0, 0)) := by
    rw [hw0]; exact heap_alloc_keep (heap_alloc_keep (MapKept.heap_alloc w _).1 _) _
  have q2 : w0.heap[w.heap.size + 1]? = some (.cells #[.int .i64 (m : Int), .int .i64 (j : Int)] 42 (0, 0)) := by
    rw [hw0]; refine heap_alloc_keep ?_ _; have := (MapKept.heap_alloc (w.alloc (.cells #[.int .i64 (l : Int), .int .i64 (i : Int)] 42)) (.cells #[.int .i64 (m : Int), .int .i64 (j : Int)] 42)).1; simpa using this
  have q3 : w0.heap[w.heap.size + 2]? = some (.cells #[.int .i64 0, .int .i64 0] 42 (0, 0)) := by
    rw [hw0]; have := (MapKept.heap_alloc ((w.alloc (.cells #[.int .i64 (l : Int), .int .i64 (i : Int)] 42)).alloc (.cells #[.int .i64 (m : Int), .int .i64 (j : Int)] 42)) (.cells #[.int .i64 0, .int .i64 0] 42)).1; simpa using this
  have HB0 := Lib.hid (show Below w.heap.size w w0 by rw [hw0]; exact (((Below.refl _ _).alloc (Nat.le_refl _) _).alloc (by simp) _).alloc (by simp; omega) _)
  rw [← hw0]
  clear hw0
  have a0 := cell_of_block (off := 0) q1 (by show 0 < 2; decide)
  have a1 := cell_of_block (off := 1) q1 (by show 1 < 2; decide)
  have HQ2 := Lib.hid q2
  have HQ3 := Lib.hid q3
  have H1L := Lib.hid (block_lt q1)
  clear q1 q2 q3
  go_wp2_with fail
  refine (HV.out w0).mono ?_
  rintro r w1 ⟨rfl, hb1⟩
  have HQ2' := Lib.hid ((hb1.block _ (block_lt HQ2.out)).trans HQ2.out)
  have HQ3' := Lib.hid ((hb1.block _ (block_lt HQ3.out)).trans HQ3.out)
  have b0 := cell_of_block (off := 0) HQ2'.out (by show 0 < 2; decide)
  have b1 := cell_of_block (off := 1) HQ2'.out (by show 1 < 2; decide)
  have HB1 := Lib.hid (HB0.out.trans (hb1.mono HB0.out.size))
  clear hb1 HQ2 HQ3 a0 a1
  go_wp2_with fail
  refine (HV2.out w1).mono ?_
  rintro r w2 ⟨rfl, hb1⟩
  have HQ2 := Lib.hid ((hb1.block _ (block_lt HQ2'.out)).trans HQ2'.out)
  have HQ3 := Lib.hid ((hb1.block _ (block_lt HQ3'.out)).trans HQ3'.out)
  have HB2 := Lib.hid (HB1.out.trans (hb1.mono HB1.out.size))
  clear hb1 HQ2' HQ3' b0 b1
  have b0 := cell_of_block (off := 0) HQ2.out (by show 0 < 2; decide)
  have b1 := cell_of_block (off := 1) HQ2.out (by show 1 < 2; decide)
  have d0 := cell_of_block (off := 0) HQ3.out (by show 0 < 2; decide)
  have d1 := cell_of_block (off := 1) HQ3.out (by show 1 < 2; decide)
  have e0 := frozen_of_block (off := 0) HQ3.out
  have e1 := frozen_of_block (off := 1) HQ3.out
  have r1 := block_setCell (off := 0) HQ3.out (.int .i64 (m : Int))
  have r2 := block_setCell (off := 1) r1 (.int .i64 (j : Int))
  have R2 := Lib.hid r2
  have HB3 := Lib.hid ((HB2.out.setCell (p := ⟨w.heap.size + 2, 0, none⟩) (by show w.heap.size ≤ w.heap.size + 2; omega) (.int .i64 (m : Int))).setCell (p := ⟨w.heap.size + 2, 1, none⟩) (by show w.heap.size ≤ w.heap.size + 2; omega) (.int .i64 (j : Int)))
  clear r1 r2
  have HSZ := Lib.hid (show (Tryz.prog.info? 42).map (·.size) = some 2 by kernel_rfl)
  go_wp2
  refine bodyPost_ret (results_cell_row_tmp rfl _ _ _ _ _ _ _ rfl R2.out Tryz.underlying42 rfl HSZ.out) rfl ⟨rfl, HB3.out⟩
theorem PlOk.kid {l i j : Nat} (h : PlOk (l + 1) i) (hj : j ≤ 2 * i + 1) : PlOk l j := by
  obtain ⟨h1, h2⟩ := h
  refine ⟨by omega, ?_⟩
  have e : (i + 1) * 2 ^ (l + 1) = (2 * i + 2) * 2 ^ l := by rw [Nat.pow_succ]; rw [show (2 * i + 2) = (i + 1) * 2 by omega, Nat.mul_assoc, Nat.mul_comm 2]
  rw [e] at h2
  exact Nat.le_trans (Nat.mul_le_mul_right _ (by omega)) h2
theorem PlOk.small {l i : Nat} (h : PlOk (l + 1) i) : 2 * i + 1 < 4611686018427387904 := by
  obtain ⟨h1, h2⟩ := h
  have := Nat.one_le_two_pow (n := l)
  rw [Nat.pow_succ] at h2
  have := Nat.mul_le_mul_left (i + 1) (show 2 ≤ 2 ^ l * 2 by omega)
  omega
set_option maxHeartbeats 2000000 in
set_option maxRecDepth 100000 in
theorem left_calls (l i : Nat) (h : PlOk (l + 1) i) (w : World) :
    Calls Tryz.prog 130 #[plV (l + 1) i] w fun r w' => r = .returned (.tuple #[plV l (2 * i), .int .i64 0]) ∧ Below w.heap.size w w' := by
  have HK := Lib.hid fun w => kin_calls (l + 1) i l (2 * i) h (PlOk.kid h (by omega)) w
  have hi2 : 2 * i + 1 < 4611686018427387904 := PlOk.small h
  obtain ⟨j, hj⟩ : ∃ j, j = (2 * i) := ⟨_, rfl⟩
  rw [← hj] at HK ⊢
  have hji : 2 * (i : Int) = (j : Int) := by omega
  obtain ⟨hl, hi⟩ := h
  clear hi hj
  unfold plV at HK ⊢
  obtain ⟨l1, hl1⟩ : ∃ l1, l1 = l + 1 := ⟨_, rfl⟩
  have hli : (l1 : Int) - 1 = (l : Int) := by omega
  rw [← hl1] at HK hl ⊢
  clear hl1
  go_enter Tryz.func130, Tryz.ntmps130
  go_upto_region 1 with (fail)
  obtain ⟨w0, hw0⟩ : ∃ w0, w0 = (w.alloc (.cells #[.int .i64 (l1 : Int), .int .i64 (i : Int)] 42)).alloc (.cells #[.int .i64 0, .int .i64 0] 42) := ⟨_, rfl⟩
  have q1 : w0.heap[w.heap.size]? = some (.cells #[.int .i64 (l1 : Int), .int .i64 (i : Int)] 42 (0, 0)) := by
    rw [hw0]; exact heap_alloc_keep (MapKept.heap_alloc w _).1 _
  have q3 : w0.heap[w.heap.size + 1]? = some (.cells #[.int .i64 0, .int .i64 0] 42 (0, 0)) := by
    rw [hw0]; have := (MapKept.heap_alloc (w.alloc (.cells #[.int .i64 (l1 : Int), .int .i64 (i : Int)] 42)) (.cells #[.int .i64 0, .int .i64 0] 42)).1; simpa using this
  have HB0 := Lib.hid (show Below w.heap.size w w0 by rw [hw0]; exact ((Below.refl _ _).alloc (Nat.le_refl _) _).alloc (by simp) _)
  rw [← hw0]
  clear hw0
  have a0 := cell_of_block (off := 0) q1 (by show 0 < 2; decide)
  have a1 := cell_of_block (off := 1) q1 (by show 1 < 2; decide)
  have HQ3' := Lib.hid q3
  clear q1 q3
  go_wp2_with fail
  refine (HK.out w0).mono ?_
  rintro r w2 ⟨rfl, hb1⟩
  have HQ3 := Lib.hid ((hb1.block _ (block_lt HQ3'.out)).trans HQ3'.out)
  have HB2 := Lib.hid (HB0.out.trans (hb1.mono HB0.out.size))
  clear hb1 HQ3' a0 a1
  have d0 := cell_of_block (off := 0) HQ3.out (by show 0 < 2; decide)
  have d1 := cell_of_block (off := 1) HQ3.out (by show 1 < 2; decide)
  have e0 := frozen_of_block (off := 0) HQ3.out
  have e1 := frozen_of_block (off := 1) HQ3.out
  have r1 := block_setCell (off := 0) HQ3.out (.int .i64 (l : Int))
  have r2 := block_setCell (off := 1) r1 (.int .i64 (j : Int))
  have R2 := Lib.hid r2
  have HB3 := Lib.hid ((HB2.out.setCell (p := ⟨w.heap.size + 1, 0, none⟩) (by show w.heap.size ≤ w.heap.size + 1; omega) (.int .i64 (l : Int))).setCell (p := ⟨w.heap.size + 1, 1, none⟩) (by show w.heap.size ≤ w.heap.size + 1; omega) (.int .i64 (j : Int)))
  clear r1 r2
  have HSZ := Lib.hid (show (Tryz.prog.info? 42).map (·.size) = some 2 by kernel_rfl)
  go_wp2
  refine bodyPost_ret (results_cell_row_tmp rfl _ _ _ _ _ _ _ rfl R2.out Tryz.underlying42 rfl HSZ.out) rfl ⟨rfl, HB3.out⟩
set_option maxHeartbeats 2000000 in
set_option maxRecDepth 100000 in
theorem right_calls (l i : Nat) (h : PlOk (l + 1) i) (w : World) :
    Calls Tryz.prog 131 #[plV (l + 1) i] w fun r w' => r = .returned (.tuple #[plV l (2 * i + 1), .int .i64 0]) ∧ Below w.heap.size w w' := by
  have HK := Lib.hid fun w => kin_calls (l + 1) i l (2 * i + 1) h (PlOk.kid h (by omega)) w
  have hi2 : 2 * i + 1 < 4611686018427387904 := PlOk.small h
  obtain ⟨j, hj⟩ : ∃ j, j = (2 * i + 1) := ⟨_, rfl⟩
  rw [← hj] at HK ⊢
  have hji : 2 * (i : Int) + 1 = (j : Int) := by omega
  obtain ⟨hl, hi⟩ := h
  clear hi hj
  unfold plV at HK ⊢
  obtain ⟨l1, hl1⟩ : ∃ l1, l1 = l + 1 := ⟨_, rfl⟩
  have hli : (l1 : Int) - 1 = (l : Int) := by omega
  rw [← hl1] at HK hl ⊢
  clear hl1
  go_enter Tryz.func131, Tryz.ntmps131
  go_upto_region 1 with (fail)
  obtain ⟨w0, hw0⟩ : ∃ w0, w0 = (w.alloc (.cells #[.int .i64 (l1 : Int), .int .i64 (i : Int)] 42)).alloc (.cells #[.int .i64 0, .int .i64 0] 42) := ⟨_, rfl⟩
  have q1 : w0.heap[w.heap.size]? = some (.cells #[.int .i64 (l1 : Int), .int .i64 (i : Int)] 42 (0, 0)) := by
    rw [hw0]; exact heap_alloc_keep (MapKept.heap_alloc w _).1 _
  have q3 : w0.heap[w.heap.size + 1]? = some (.cells #[.int .i64 0, .int .i64 0] 42 (0, 0)) := by
    rw [hw0]; have := (MapKept.heap_alloc (w.alloc (.cells #[.int .i64 (l1 : Int), .int .i64 (i : Int)] 42)) (.cells #[.int .i64 0, .int .i64 0] 42)).1; simpa using this
  have HB0 := Lib.hid (show Below w.heap.size w w0 by rw [hw0]; exact ((Below.refl _ _).alloc (Nat.le_refl _) _).alloc (by simp) _)
  rw [← hw0]
  clear hw0
  have a0 := cell_of_block (off := 0) q1 (by show 0 < 2; decide)
  have a1 := cell_of_block (off := 1) q1 (by show 1 < 2; decide)
  have HQ3' := Lib.hid q3
  clear q1 q3
  go_wp2_with fail
  refine (HK.out w0).mono ?_
  rintro r w2 ⟨rfl, hb1⟩
  have HQ3 := Lib.hid ((hb1.block _ (block_lt HQ3'.out)).trans HQ3'.out)
  have HB2 := Lib.hid (HB0.out.trans (hb1.mono HB0.out.size))
  clear hb1 HQ3' a0 a1
  have d0 := cell_of_block (off := 0) HQ3.out (by show 0 < 2; decide)
  have d1 := cell_of_block (off := 1) HQ3.out (by show 1 < 2; decide)
  have e0 := frozen_of_block (off := 0) HQ3.out
  have e1 := frozen_of_block (off := 1) HQ3.out
  have r1 := block_setCell (off := 0) HQ3.out (.int .i64 (l : Int))
  have r2 := block_setCell (off := 1) r1 (.int .i64 (j : Int))
  have R2 := Lib.hid r2
  have HB3 := Lib.hid ((HB2.out.setCell (p := ⟨w.heap.size + 1, 0, none⟩) (by show w.heap.size ≤ w.heap.size + 1; omega) (.int .i64 (l : Int))).setCell (p := ⟨w.heap.size + 1, 1, none⟩) (by show w.heap.size ≤ w.heap.size + 1; omega) (.int .i64 (j : Int)))
  clear r1 r2
  have HSZ := Lib.hid (show (Tryz.prog.info? 42).map (·.size) = some 2 by kernel_rfl)
  go_wp2
  refine bodyPost_ret (results_cell_row_tmp rfl _ _ _ _ _ _ _ rfl R2.out Tryz.underlying42 rfl HSZ.out) rfl ⟨rfl, HB3.out⟩
end Go.Proofs.YtblkehdpenfhjaaGreatDoor
/-
  Package wire: Leaves.
-/
set_option linter.unusedVariables false
set_option linter.unusedSimpArgs false
namespace Go.Proofs.YtblkehdpenfhjaaGreatDoor
open Go.RowKit

def leafL (x : ByteArray) : List UInt8 := varL 10 x.size ++ x.data.toList
def leavesN (xs : List ByteArray) (i : Nat) : List UInt8 := 76 :: (varL 10 xs.length ++ (xs.take i).flatMap leafL)
def leavesL (xs : List ByteArray) : List UInt8 := leavesN xs xs.length
theorem leavesN_succ (xs : List ByteArray) (i : Nat) (h : i < xs.length) : leavesN xs (i + 1) = leavesN xs i ++ leafL xs[i] := by
  unfold leavesN
  rw [List.take_succ_eq_append_getElem h, List.flatMap_append]
  simp
theorem strCells_eq (x : ByteArray) : Lib.strCells x = Lib.byteCells x.data.toList := rfl
theorem byteCells_app (a b : List UInt8) : Lib.byteCells (a ++ b) = Lib.byteCells a ++ Lib.byteCells b := List.map_append ..
theorem leavesN_len (xs : List ByteArray) (hn : xs.length ≤ 1024) (hx : ∀ x ∈ xs, x.size ≤ 4096) : ∀ i, i ≤ xs.length → (leavesN xs i).length ≤ 11 + i * 4106
  | 0, _ => by
    have := varL_len 10 xs.length
    simp [leavesN]; omega
  | i + 1, h => by
    have h1 := leavesN_len xs hn hx i (by omega)
    have h2 := varL_len 10 (xs[i]'(by omega)).size
    have h3 := hx (xs[i]'(by omega)) (List.getElem_mem _)
    rw [leavesN_succ xs i (by omega), List.length_append]
    unfold leafL
    rw [List.length_append]
    have h4 : (xs[i]'(by omega)).data.toList.length = (xs[i]'(by omega)).size := by simp
    omega
theorem builder_below {T e : TypeId} {B b : Nat} {p : Value} {bs : List Value} {w w' : World} (h : Lib.BuilderAt T e B b p bs w) (hb : Below w.heap.size w w') : Lib.BuilderAt T e B b p bs w' := by
  obtain ⟨h1, v, h2, ⟨h3, h4⟩, h5⟩ := h
  refine ⟨h1, v, (hb.block _ (block_lt h2)).trans h2, ⟨h3, ?_⟩, h5⟩
  rcases h4 with h4 | ⟨g, cap, cur, q1, q2, q3, q4⟩
  · exact .inl h4
  · exact .inr ⟨g, cap, cur, q1, q2, (hb.block _ (block_lt q3)).trans q3, q4⟩
set_option maxHeartbeats 4000000 in
set_option maxRecDepth 100000 in
theorem wireLeaves_calls (xs : List ByteArray) (hn : xs.length ≤ 1024) (hx : ∀ x ∈ xs, x.size ≤ 4096) (v : Value) (w : World) (hv : SlIn w v (xs.map Value.string) (fun _ => True)) :
    Calls Tryz.prog 70 #[v] w fun r w' => r = .returned (.tuple #[.string (mk (leavesL xs)), .int .i64 0]) ∧ Below w.heap.size w w' := by
  obtain ⟨A, cap, rfl, hcap, hcells⟩ := hv
  have HX := Lib.hid hx
  obtain ⟨n, hnn⟩ : ∃ n, n = xs.length := ⟨_, rfl⟩
  have HN := Lib.hid hnn
  have hml : (xs.map Value.string).length = n := by rw [List.length_map, hnn]
  have HC := Lib.hid (show 0 < n → ∃ b o, A = some ⟨b, o, none⟩ ∧ b < w.heap.size ∧ ∀ i (h : i < xs.length), w.cell? ⟨b, o + i, none⟩ = some (.string xs[i]) from fun h => by
    obtain ⟨b, o, h1, h2, _, h4⟩ := hcells (by omega)
    exact ⟨b, o, h1, h2, fun i hi => by rw [h4 i (by omega), List.getElem_map]⟩)
  rw [hml] at hcap ⊢
  rw [← hnn] at hn
  clear hcells hml hx hnn
  have k1 : decide ((1024 : Int) < (n : Int)) = false := decide_eq_false (by omega)
  go_enter Tryz.func70, Tryz.ntmps70
  go_wp2
  go_loopw [14] (fun iv wr => ∃ i : Nat, iv = .int .i64 i ∧ i ≤ n ∧ w = wr) (fun iv _ => n - (intOf iv).toNat)
  case atStart => exact ⟨0, rfl, by omega, rfl⟩
  case round =>
    obtain ⟨i, rfl, hi, rfl⟩ := hrel
    by_cases hlt : i < n
    · obtain ⟨b, o, rfl, hbl, hc⟩ := HC.out (by omega)
      have c1 := hc i (by have := HN.out; omega)
      have hs := HX.out (xs[i]'(by have := HN.out; omega)) (List.getElem_mem _)
      obtain ⟨x, hxe⟩ : ∃ x, x = xs[i]'(by have := HN.out; omega) := ⟨_, rfl⟩
      rw [← hxe] at c1 hs
      have k2 : decide ((4096 : Int) < (x.size : Int)) = false := decide_eq_false (by omega)
      clear hc hxe
      go_wp2
      exact ⟨⟨i + 1, by go_num, by omega, by first | rfl | trivial⟩, by simp [intOf]; omega⟩
    · obtain rfl : i = n := by omega
      clear hlt hi k1
      have HF := Lib.hid (Lib.fresh_isBuilder 110 5 w)
      go_wp2_with fail
      refine (writeByte_calls w.heap.size w.heap.size [] 76 _ HF.out (by decide) (by simp)).mono ?_
      rintro r w1 ⟨rfl, hB1, hb1⟩
      rw [List.nil_append] at hB1
      have HB1 := Lib.hid hB1
      have HW1 := Lib.hid (show Below w.heap.size w w1 from ((Below.refl _ _).alloc (Nat.le_refl _) _).trans hb1)
      clear hB1 hb1
      go_wp2_with fail
      refine (number_calls i (by omega) w1).mono ?_
      rintro r w2 ⟨rfl, hb2⟩
      obtain ⟨y, hy⟩ : ∃ y, y = mk (varL 10 i) := ⟨_, rfl⟩
      have HY := Lib.hid (show y.data.toList = varL 10 i by rw [hy, mk_list])
      have HYS := Lib.hid (show y.size ≤ 10 by rw [hy, mk_size]; exact varL_len _ _)
      rw [← hy]
      have HB2 := Lib.hid (builder_below HB1.out hb2)
      have HW2 := Lib.hid (HW1.out.trans (hb2.mono HW1.out.size))
      clear hb2 hy
      go_wp2_with fail
      refine (writeString_calls w.heap.size w.heap.size _ y w2 (.inr HB2.out) (by have := HYS.out; simp; omega) HW2.out.size).mono ?_
      rintro r w3 ⟨rfl, hB3, hb3⟩
      have e0 : [Value.int .u8 76] ++ Lib.strCells y = Lib.byteCells (leavesN xs 0) := by
        unfold leavesN
        rw [strCells_eq, HY.out, ← HN.out]
        simp [Lib.byteCells]
      rw [e0] at hB3
      have HB3 := Lib.hid hB3
      have HW3 := Lib.hid (HW2.out.trans hb3)
      clear hB3 hb3 e0
      go_wp2
      go_loopw [29] (fun iv wr => ∃ j : Nat, iv = .int .i64 j ∧ j ≤ i ∧ Hid (Lib.BuilderAt 110 5 w.heap.size w.heap.size (.pointer (some ⟨w.heap.size, 0, none⟩)) (Lib.byteCells (leavesN xs j)) wr) ∧ Hid (Below w.heap.size w wr)) (fun iv _ => i - (intOf iv).toNat)
      case atStart => exact ⟨0, rfl, by omega, HB3, HW3⟩
      case round =>
        clear HB3 HW3
        obtain ⟨j, rfl, hj, HB, HW⟩ := hrel
        by_cases hlt : j < i
        · obtain ⟨b, o, rfl, hbl, hc⟩ := HC.out (by omega)
          have hjx : j < xs.length := by have := HN.out; omega
          have c1 := hc j hjx
          rw [← HW.out.cell (p := ⟨b, o + j, none⟩) hbl] at c1
          have hs := HX.out xs[j] (List.getElem_mem _)
          obtain ⟨x, hxe⟩ : ∃ x, x = xs[j] := ⟨_, rfl⟩
          rw [← hxe] at c1 hs
          have HXE := Lib.hid (show leavesN xs (j + 1) = leavesN xs j ++ leafL x by rw [hxe]; exact leavesN_succ xs j hjx)
          have HLN := Lib.hid (show (leavesN xs j).length ≤ 5000000 by have := leavesN_len xs (by have := HN.out; omega) HX.out j (by omega); omega)
          clear hc hxe hjx
          go_wp2_with fail
          refine (number_calls x.size (by omega) wr).mono ?_
          rintro r w2 ⟨rfl, hb2⟩
          obtain ⟨z, hz⟩ : ∃ z, z = mk (varL 10 x.size) := ⟨_, rfl⟩
          have HZ := Lib.hid (show z.data.toList = varL 10 x.size by rw [hz, mk_list])
          have HZS := Lib.hid (show z.size ≤ 10 by rw [hz, mk_size]; exact varL_len _ _)
          rw [← hz]
          have HB2 := Lib.hid (builder_below HB.out hb2)
          have HW2 := Lib.hid (HW.out.trans (hb2.mono HW.out.size))
          clear hb2 hz
          obtain ⟨u, hu⟩ : ∃ u, u = z ++ x := ⟨_, rfl⟩
          have HU := Lib.hid (show u.data.toList = leafL x by rw [hu, ByteArray.data_append]; simp [leafL, HZ.out])
          have HUS := Lib.hid (show u.size ≤ 4106 by rw [hu, ByteArray.size_append]; have := HZS.out; omega)
          have hsum : ∀ w, (Op.stringOp .add z x).run Tryz.prog w = .ok (.string u) w := fun w => by rw [hu]; exact run_string_add_sum w z x (by have := HZS.out; omega)
          clear hu
          go_wp2_with fail
          refine (writeString_calls w.heap.size w.heap.size _ u w2 (.inr HB2.out) (by have := HUS.out; have := HLN.out; rw [Lib.byteCells_length]; omega) HW2.out.size).mono ?_
          rintro r w3 ⟨rfl, hB3, hb3⟩
          have e0 : Lib.byteCells (leavesN xs j) ++ Lib.strCells u = Lib.byteCells (leavesN xs (j + 1)) := by rw [strCells_eq, HU.out, HXE.out, byteCells_app]
          rw [e0] at hB3
          have HB3 := Lib.hid hB3
          have HW3 := Lib.hid (HW2.out.trans hb3)
          clear hB3 hb3 e0 hsum
          go_wp2
          exact ⟨⟨j + 1, by go_num, by omega, HB3, HW3⟩, by simp [intOf]; omega⟩
        · have hji : j = i := by omega
          have k5 : decide ((j : Int) < (i : Int)) = false := decide_eq_false (by omega)
          have HBE := Lib.hid (show Lib.BuilderAt 110 5 w.heap.size w.heap.size (.pointer (some ⟨w.heap.size, 0, none⟩)) (Lib.byteCells (leavesL xs)) wr by have := HB.out; rw [hji, HN.out] at this; exact this)
          have k6 : decide (j < i) = false := decide_eq_false (by omega)
          clear hji hj HB
          go_wp2_with fail
          refine (string_calls w.heap.size w.heap.size _ wr (.inr HBE.out) HW.out.size).mono ?_
          rintro r w3 ⟨rfl, hb3⟩
          have HW3 := Lib.hid (HW.out.trans hb3)
          clear hb3
          go_wp2
          go_ret2
          exact ⟨rfl, HW3.out⟩
end Go.Proofs.YtblkehdpenfhjaaGreatDoor
/-
  Package store: a store, its makers and readers.
-/
set_option linter.unusedVariables false
set_option linter.unusedSimpArgs false
namespace Go.Proofs.YtblkehdpenfhjaaGreatDoor
open Go.RowKit Go.Maps Go.ChangeMaps Go.MapKept

theorem MapF.copy {P : Program} {k : TypeId} {w w' : World} {b b' n : Nat} {f : Lit → Option Value} (h : MapF P k w b f n) (he : w'.heap[b']? = w.heap[b]?) : MapF P k w' b' f n := by
  obtain ⟨D, ⟨es, clock, hb, rest⟩, h2⟩ := h
  exact ⟨D, ⟨es, clock, he.trans hb, rest⟩, h2⟩
theorem MapF.entries {P : Program} {k : TypeId} {w : World} {b n : Nat} {f : Lit → Option Value} (h : MapF P k w b f n) : ∃ es clock, w.heap[b]? = some (.map es clock) := by
  obtain ⟨D, ⟨es, clock, hb, rest⟩, h2⟩ := h
  exact ⟨es, clock, hb⟩
set_option maxHeartbeats 2000000 in
set_option maxRecDepth 100000 in
theorem cloneRecs_calls (w : World) (b : Nat) (es : Array MapEntry) (clock : Nat) (hb : w.heap[b]? = some (.map es clock)) :
    Calls Tryz.prog 91 #[.map (some b)] w fun r w' => r = .returned (.map (some w.heap.size)) ∧ w' = w.alloc (.map es clock) := by
  have hq := fun w => run_eql_map_nil_sl (P := Tryz.prog) w 103 _ _ (some b) Tryz.underlying103
  go_enter Tryz.func91, Tryz.ntmps91
  go_wp2
  rw [run_callFunc_extern Tryz.func155 (by kernel_rfl) (by kernel_rfl) (by kernel_rfl) (e := Extern.MapsClone.clone) (by kernel_rfl), run_maps_clone_sl w 103 hb]
  simp only [Result.andThen]
  rw [Oper.upon_value]
  go_wp2
  rw [run_typeAssert_map_sl _ 103 20 _ _ _ Tryz.underlying103]
  simp only [Result.andThen]
  rw [Oper.upon_value]
  go_wp2
  go_ret
  exact ⟨rfl, rfl⟩
/-- a store at block sb: room, what stands in it (f: n keys), what stands on its disk (g: m keys), its writes, how much is used, down, fuse, age -/
structure StoreIs (w : World) (sb mb kb : Nat) (room : Nat) (f g : Lit → Option Value) (n m : Nat) (log : Value) (lk : Nat) (us : List Value) (used : Nat) (down : Bool) (fuse age : Nat) : Prop where
  blk : w.heap[sb]? = some (.cells #[.int .i64 (room : Int), .map (some mb), .map (some kb), log, .int .i64 (used : Int), .bool down, .int .i64 (fuse : Int), .int .i64 (age : Int)] 106 (0, 0))
  now : MapF Tryz.prog 9 w mb f n
  disk : MapF Tryz.prog 9 w kb g m
  own : w.ownsRow 0 187 3 log lk us
set_option maxHeartbeats 2000000 in
set_option maxRecDepth 100000 in
theorem storeNew_calls (room : Nat) (hr : room ≤ 1073741824) (w : World) :
    Calls Tryz.prog 32 #[.int .i64 room] w fun r w' => ∃ sb mb kb, r = .returned (.pointer (some ⟨sb, 0, none⟩)) ∧ w.heap.size ≤ sb ∧ w.heap.size ≤ mb ∧ w.heap.size ≤ kb ∧ mb ≠ sb ∧ kb ≠ sb ∧ mb ≠ kb ∧
      StoreIs w' sb mb kb room (fun _ => none) (fun _ => none) 0 0 (.slice none 0 0) 0 [] 0 false 0 0 ∧ Below w.heap.size w w' := by
  have hmm := @run_makeMap Tryz.prog
  have k1 : (room : Int) ≤ 1073741824 := by omega
  go_enter Tryz.func32, Tryz.ntmps32
  go_wp2_with (first | (go_at_call 91; refine (cloneRecs_calls _ _ #[] 0 ((MapKept.heap_alloc w _).1)).mono ?_; rintro e w' ⟨rfl, rfl⟩) | go_in)
  go_ret
  have a1 := (MapKept.heap_alloc w (.map #[] 0)).1
  have a2 := (MapKept.heap_alloc (w.alloc (.map #[] 0)) (.map #[] 0)).1
  have a3 := heap_alloc_keep a1 (.map #[] 0)
  obtain ⟨w2, hw2⟩ : ∃ w2, w2 = (w.alloc (.map #[] 0)).alloc (.map #[] 0) := ⟨_, rfl⟩
  have hs2 : w2.heap.size = w.heap.size + 2 := by rw [hw2]; simp
  have a2' : w2.heap[w.heap.size + 1]? = some (.map #[] 0) := by rw [hw2]; simpa using a2
  have a3' : w2.heap[w.heap.size]? = some (.map #[] 0) := by rw [hw2]; exact a3
  have mkF : ∀ (w' : World) b, w'.heap[b]? = some (.map #[] 0) → MapF Tryz.prog 9 w' b (fun _ => none) 0 := fun w' b hb =>
    MapF.copy (MapF.made Tryz.prog 9 w') (hb.trans (MapKept.heap_alloc w' (.map #[] 0)).1.symm)
  refine ⟨w.heap.size + 2, w.heap.size + 1, w.heap.size, rfl, by omega, by omega, Nat.le_refl _, by omega, by omega, by omega, ⟨?_, ?_, ?_, World.ownsRow_nil _ _ _ _⟩, ?_⟩
  · rw [← hw2, ← hs2]
    exact (MapKept.heap_alloc w2 _).1
  · rw [← hw2]
    exact mkF _ _ (heap_alloc_keep a2' _)
  · rw [← hw2]
    exact mkF _ _ (heap_alloc_keep a3' _)
  · exact (((Below.refl _ w).alloc (Nat.le_refl _) _).alloc (by simp) _).alloc (by simp; omega) _
section
variable {w : World} {sb mb kb room n m : Nat} {f g : Lit → Option Value} {log : Value} {us : List Value} {lk used fuse age : Nat} {down : Bool}
theorem StoreIs.lt (h : StoreIs w sb mb kb room f g n m log lk us used down fuse age) : sb < w.heap.size := block_lt h.blk
set_option maxRecDepth 100000 in
theorem used_calls (h : StoreIs w sb mb kb room f g n m log lk us used down fuse age) :
    Calls Tryz.prog 20 #[.pointer (some ⟨sb, 0, none⟩)] w fun r w' => r = .returned (.int .i64 used) ∧ w = w' := by
  have c := cell_of_block (off := 4) h.blk (by show 4 < 8; decide)
  clear h
  go_enter Tryz.func20, Tryz.ntmps20
  go_wp2
  go_ret
  exact ⟨rfl, by first | rfl | trivial⟩
set_option maxRecDepth 100000 in
theorem room_calls (h : StoreIs w sb mb kb room f g n m log lk us used down fuse age) :
    Calls Tryz.prog 69 #[.pointer (some ⟨sb, 0, none⟩)] w fun r w' => r = .returned (.int .i64 room) ∧ w = w' := by
  have c := cell_of_block (off := 0) h.blk (by show 0 < 8; decide)
  clear h
  go_enter Tryz.func69, Tryz.ntmps69
  go_wp2
  go_ret
  exact ⟨rfl, by first | rfl | trivial⟩
set_option maxRecDepth 100000 in
theorem down_calls (h : StoreIs w sb mb kb room f g n m log lk us used down fuse age) :
    Calls Tryz.prog 39 #[.pointer (some ⟨sb, 0, none⟩)] w fun r w' => r = .returned (.bool down) ∧ w = w' := by
  have c := cell_of_block (off := 5) h.blk (by show 5 < 8; decide)
  clear h
  go_enter Tryz.func39, Tryz.ntmps39
  go_wp2
  go_ret
  exact ⟨rfl, by first | rfl | trivial⟩
set_option maxRecDepth 100000 in
theorem age_calls (h : StoreIs w sb mb kb room f g n m log lk us used down fuse age) :
    Calls Tryz.prog 128 #[.pointer (some ⟨sb, 0, none⟩)] w fun r w' => r = .returned (.int .i64 age) ∧ w = w' := by
  have c := cell_of_block (off := 7) h.blk (by show 7 < 8; decide)
  clear h
  go_enter Tryz.func128, Tryz.ntmps128
  go_wp2
  go_ret
  exact ⟨rfl, by first | rfl | trivial⟩
set_option maxRecDepth 100000 in
theorem strikes_calls (h : StoreIs w sb mb kb room f g n m log lk us used down 0 age) :
    Calls Tryz.prog 80 #[.pointer (some ⟨sb, 0, none⟩)] w fun r w' => r = .returned (.bool false) ∧ w = w' := by
  have c := cell_of_block (off := 6) h.blk (by show 6 < 8; decide)
  clear h
  go_enter Tryz.func80, Tryz.ntmps80
  go_wp2
  go_ret
  exact ⟨rfl, by first | rfl | trivial⟩
end
end Go.Proofs.YtblkehdpenfhjaaGreatDoor
/-
  Package store: keyed, counts, a record put.
-/
set_option linter.unusedVariables false
set_option linter.unusedSimpArgs false
namespace Go.Proofs.YtblkehdpenfhjaaGreatDoor
open Go.RowKit Go.Maps Go.ChangeMaps Go.MapKept

set_option maxRecDepth 100000 in
theorem keyed_calls (k : ByteArray) (h1 : 1 ≤ k.size) (h2 : k.size ≤ 64) (w : World) :
    Calls Tryz.prog 171 #[.string k] w fun r w' => r = .returned (.bool true) ∧ w = w' := by
  have k1 : (1 : Int) ≤ (k.size : Int) := by omega
  have k2 : (k.size : Int) ≤ 64 := by omega
  go_enter Tryz.func171, Tryz.ntmps171
  go_wp2
  go_ret
  exact ⟨rfl, by first | rfl | trivial⟩
set_option maxRecDepth 100000 in
theorem costs_calls (k v : ByteArray) (h1 : k.size ≤ 1073741824) (h2 : v.size ≤ 1073741824) (w : World) :
    Calls Tryz.prog 156 #[.string k, .string v] w fun r w' => r = .returned (.int .i64 ((k.size + v.size + 16 : Nat) : Int)) ∧ w = w' := by
  have k1 : (k.size : Int) ≤ 1073741824 := by omega
  have k2 : (v.size : Int) ≤ 1073741824 := by omega
  obtain ⟨a, ha⟩ : ∃ a, a = k.size := ⟨_, rfl⟩
  obtain ⟨b, hb⟩ : ∃ b, b = v.size := ⟨_, rfl⟩
  obtain ⟨c, hc⟩ : ∃ c, c = a + b + 16 := ⟨_, rfl⟩
  have hsum : (k.size : Int) + (v.size : Int) + 16 = (c : Int) := by omega
  have HE := Lib.hid (show k.size + v.size + 16 = c by omega)
  clear ha hb hc h1 h2
  rw [HE.out]
  go_enter Tryz.func156, Tryz.ntmps156
  go_wp2
  go_ret
  exact ⟨rfl, by first | rfl | trivial⟩
theorem keyedS : Keyed Tryz.prog 9 := string_keyed Tryz.underlying9
set_option maxRecDepth 100000 in
theorem recPut_calls (b n : Nat) (f : Lit → Option Value) (k v : ByteArray) (hk : k.size ≤ maxLen) (hn : n < maxLen) (w : World) (h : MapF Tryz.prog 9 w b f n) :
    Calls Tryz.prog 143 #[.map (some b), .string k, .string v] w fun r w' => r = .returned (.tuple #[]) ∧ MapF Tryz.prog 9 w' b (updF f (.string k.data.toList) (some (.string v))) (grow (f (.string k.data.toList)) n) ∧ Turn (fun i => i = b) w w' := by
  have H := Lib.hid h
  have HN := Lib.hid hn
  clear h hn
  have HK := Lib.hid (show keyOf Tryz.prog 9 (.string k) = some (.string k.data.toList) from WideMaps.keyOf_string_mk Tryz.underlying9 hk)
  clear hk
  go_enter Tryz.func143, Tryz.ntmps143
  go_wp2_with (at_mapUpdate; go_must (refine wpList_mapF_store (by rfl) (.tmp 6) (.tmp 7) (.tmp 8) 103 (by rfl) 9 9 keyedS Tryz.underlying103 b _ _ (by rfl) H.out HN.out (.string k) (.string v) (.string k.data.toList) (by rfl) (by rfl) HK.out ?_))
  intro w' hm ht
  have HM := Lib.hid hm
  have HT := Lib.hid ((Turn.refl (fun i => i = b) w).map ht (.inl rfl))
  clear hm ht
  go_wp2
  go_end0
  exact ⟨rfl, HM.out, HT.out⟩
end Go.Proofs.YtblkehdpenfhjaaGreatDoor
/-
  Package store: done.
-/
set_option linter.unusedVariables false
set_option linter.unusedSimpArgs false
namespace Go.Proofs.YtblkehdpenfhjaaGreatDoor
open Go.RowKit Go.Maps Go.ChangeMaps Go.MapKept

theorem own_mono {w : World} {B B' : Nat} {e : TypeId} {sz n : Nat} {v : Value} {us : List Value} (h : w.ownsRow B e sz v n us) (hB : B' ≤ B) : w.ownsRow B' e sz v n us := by
  obtain ⟨h3, h4⟩ := h
  refine ⟨h3, ?_⟩
  rcases h4 with h4 | ⟨g, cap, cur, q1, q2, q3⟩
  · exact .inl h4
  · exact .inr ⟨g, cap, cur, q1, Nat.le_trans hB q2, q3⟩
theorem own_ge {w : World} {B : Nat} {e : TypeId} {sz n : Nat} {v : Value} {us : List Value} (h : w.ownsRow B e sz v n us) {b : Nat} (hb : v.ownBlock = some b) : B ≤ b := by
  obtain ⟨h3, h4⟩ := h
  rcases h4 with ⟨rfl, _⟩ | ⟨g, cap, cur, rfl, q2, q3⟩
  · cases hb
  · cases hb
    exact q2
/-- append, and whose the new list's block is -/
theorem run_append_sz {P : Program} {w : World} (base : Nat) (t ty e : TypeId) (i : TypeInfo) (z : Value) (size bytes : Nat) (ht : P.underlying t = some (.slice e)) (hi : P.info? e = some i) (hz : i.zero = some z)
    (hsize : i.size = size) (hby : i.bytes = bytes) (hzs : z.cells.size = size) (hsz : 0 < size)
    (v : Value) (n : Nat) (xs : List Value) (hown : w.ownsRow base e size v n xs)
    (a : Addr) (m c : Nat) (news : List Value) (hl : news.length = m * size) (hnews : ∀ j u, news[j]? = some u → w.cell? (a.add j) = some u) (h1 : ∀ u ∈ news, u.oneCell' = true)
    (h63 : n + m ≤ maxLen) (hbytes : (n + m) * bytes ≤ 140737488355328) (hbase : base ≤ w.heap.size) :
    ∃ v' w', (Builtin.append_ #[t, t] ty #[v, .slice (some a) m c]).run P w = .ok v' w' ∧ w'.ownsRow base e size v' (n + m) (xs ++ news) ∧ w.grownBy w' v.ownBlock ∧
      ∀ b, v'.ownBlock = some b → v.ownBlock = some b ∨ w.heap.size ≤ b := by
  rcases hown.2 with ⟨rfl, hn⟩ | ⟨g, cap, cur, rfl, q2, q3, q4, q5, q6, q7⟩
  · obtain ⟨h3, _⟩ := hown
    have hx : xs = [] := List.eq_nil_of_length_eq_zero (by rw [h3, hn]; simp)
    subst hx
    subst hn
    obtain ⟨v', w', hr, r1, r2, _⟩ := run_append_own (P := P) w w.heap.size t ty e i z size bytes ht hi hz hsize hby hzs hsz (.slice none 0 0) 0 [] (World.ownsRow_nil w _ e size) a m c news hl hnews h1 h63 hbytes (Nat.le_refl _)
    exact ⟨v', w', hr, own_mono r1 hbase, r2, fun b hb => .inr (own_ge r1 hb)⟩
  · by_cases hroom : n + m ≤ cap
    · obtain ⟨w', hr, r1, r2⟩ := run_append_own_spare (P := P) w base t ty e i size ht hi hsize g n cap xs hown a m c news hl hnews h1 hroom
      exact ⟨_, w', hr, r1, r2, fun b hb => .inl hb⟩
    · obtain ⟨v', w', hr, r1, r2⟩ := run_append_arg_grows (P := P) w t ty e i z size bytes ht hi hz hsize hby hzs hsz ⟨g, 0, none⟩ n cap xs hown.1 (fun j u hu => World.ownsRow.cells (g := g) hown rfl j u hu) a m c news hl hnews (by omega) h63 hbytes
      refine ⟨v', w', hr, own_mono r1 hbase, ?_, fun b hb => .inr (own_ge r1 hb)⟩
      exact ⟨r2.os, r2.tape, r2.output, r2.size, fun k hk _ => r2.block k hk (fun e => by cases e)⟩
theorem wp_append_sz {P : Program} {w : World} {o : Oper} {a : Act} {K : Act → World → Prop} {Q : Exit → Act → World → Prop} (s x : Operand) (t : TypeId)
    (ho : o.op = .call { callee := .builtin .append, args := #[s, x], argTypes := #[t, t] })
    (base : Nat) (e : TypeId) (i : TypeInfo) (z : Value) (size bytes : Nat) (ht : P.underlying t = some (.slice e)) (hi : P.info? e = some i) (hz : i.zero = some z)
    (hsize : i.size = size) (hby : i.bytes = bytes) (hzs : z.cells.size = size) (hsz : 0 < size)
    (v : Value) (n : Nat) (xs : List Value) (hs : a.eval s = v) (hown : w.ownsRow base e size v n xs)
    (ad : Addr) (m c : Nat) (news : List Value) (hx : a.eval x = .slice (some ad) m c) (hl : news.length = m * size) (hnews : ∀ j u, news[j]? = some u → w.cell? (ad.add j) = some u) (h1 : ∀ u ∈ news, u.oneCell' = true)
    (h63 : n + m ≤ maxLen) (hbytes : (n + m) * bytes ≤ 140737488355328) (hbase : base ≤ w.heap.size)
    (h : ∀ v' w', w'.ownsRow base e size v' (n + m) (xs ++ news) → w.grownBy w' v.ownBlock → (∀ b, v'.ownBlock = some b → v.ownBlock = some b ∨ w.heap.size ≤ b) → K (a.put o.dst v') w') : o.wp P a w K Q := by
  obtain ⟨v', w', hr, h2, h3, h4⟩ := run_append_sz (P := P) base t o.type e i z size bytes ht hi hz hsize hby hzs hsz v n xs hown ad m c news hl hnews h1 h63 hbytes hbase
  unfold Oper.wp execOp
  simp only [ho, resolve, invoke, builtin, Sem.run_bind, Sem.run_pure, Result.andThen_ok, List.map_toArray, List.map_cons, List.map_nil, hs, hx, hr]
  exact h v' w' h2 h3 h4
theorem infoW : (Tryz.prog.info? 187).map (fun i => (i.zero, i.size, i.bytes)) = some (some (.agg #[.string ⟨#[]⟩, .string ⟨#[]⟩, .bool false]), 3, 40) := by kernel_rfl
theorem own_keep {w w' : World} {B : Nat} {e : TypeId} {sz n : Nat} {v : Value} {us : List Value} (h : w.ownsRow B e sz v n us) (hk : ∀ (b : Nat) (cur : Array Value), w.heap[b]? = some (Obj.cells cur e (0, 0)) → w'.heap[b]? = w.heap[b]?) : w'.ownsRow B e sz v n us := by
  obtain ⟨h3, h4⟩ := h
  refine ⟨h3, ?_⟩
  rcases h4 with h4 | ⟨g, cap, cur, q1, q2, q3, q4⟩
  · exact .inl h4
  · exact .inr ⟨g, cap, cur, q1, q2, (hk g cur q3).trans q3, q4⟩
theorem own_block {w : World} {B : Nat} {e : TypeId} {sz n : Nat} {v : Value} {us : List Value} (h : w.ownsRow B e sz v n us) {b : Nat} (hb : v.ownBlock = some b) : ∃ cur, w.heap[b]? = some (Obj.cells cur e (0, 0)) := by
  obtain ⟨h3, h4⟩ := h
  rcases h4 with ⟨rfl, _⟩ | ⟨g, cap, cur, rfl, q2, q3, q4⟩
  · cases hb
  · cases hb
    exact ⟨cur, q3⟩
set_option maxHeartbeats 4000000 in
set_option maxRecDepth 100000 in
theorem done_calls (k v : ByteArray) (hk : k.size ≤ maxLen) {w : World} {sb mb kb room n m : Nat} {f g : Lit → Option Value} {log : Value} {us : List Value} {lk used age : Nat}
    (h : StoreIs w sb mb kb room f g n m log lk us used false 0 age) (hn : n < maxLen) (hlk : lk ≤ 1000000000) (hkb : kb ≠ mb) :
    Calls Tryz.prog 172 #[.pointer (some ⟨sb, 0, none⟩), .agg #[.string k, .string v, .bool false], .func (.func 143) #[.map (some mb)] #[]] w fun r w' => r = .returned (.int .i64 0) ∧
      (∃ log', StoreIs w' sb mb kb room (updF f (.string k.data.toList) (some (.string v))) g (grow (f (.string k.data.toList)) n) m log' (lk + 1) (us ++ [.string k, .string v, .bool false]) used false 0 age ∧ (∀ b, log'.ownBlock = some b → log.ownBlock = some b ∨ w.heap.size ≤ b)) ∧
      Turn (fun b => b = sb ∨ b = mb ∨ log.ownBlock = some b) w w' := by
  obtain ⟨iW, hiW, hz0, hz1, hz2⟩ := info_parts infoW
  have H := Lib.hid h
  have HN := Lib.hid hn
  have HLK := Lib.hid hlk
  have HKS := Lib.hid hk
  have HKB := Lib.hid hkb
  clear h hn hlk hk hkb
  go_enter Tryz.func172, Tryz.ntmps172
  go_upto_region 1 with (fail)
  obtain ⟨w0, hw0⟩ : ∃ w0, w0 = w.alloc (.cells #[.string k, .string v, .bool false] 187) := ⟨_, rfl⟩
  have q1 : w0.heap[w.heap.size]? = some (.cells #[.string k, .string v, .bool false] 187 (0, 0)) := by rw [hw0]; exact (MapKept.heap_alloc w _).1
  have HT0 := Lib.hid (show Turn (fun b => b = sb ∨ b = mb ∨ log.ownBlock = some b) w w0 by rw [hw0]; exact (Turn.refl _ _).alloc _)
  have HM0 := Lib.hid (show MapF Tryz.prog 9 w0 mb f n by rw [hw0]; exact H.out.now.keep (Below.heap_alloc _ _ _ H.out.now.lt))
  have HB0 := Lib.hid (show Below w.heap.size w w0 by rw [hw0]; exact (Below.refl _ _).alloc (Nat.le_refl _) _)
  rw [← hw0]
  clear hw0
  have a0 := cell_of_block (off := 0) q1 (by show 0 < 3; decide)
  have a1 := cell_of_block (off := 1) q1 (by show 1 < 3; decide)
  have HQ1 := Lib.hid q1
  clear q1
  go_wp2_with fail
  refine (recPut_calls mb n f k v HKS.out HN.out w0 HM0.out).mono ?_
  rintro r w1 ⟨rfl, hm1, ht1⟩
  have hmlt : mb < w.heap.size := H.out.now.lt
  have HM1 := Lib.hid hm1
  have hT1 : Turn (fun b => b = sb ∨ b = mb ∨ log.ownBlock = some b) w w1 := HT0.out.trans' ht1 (fun i hi => .inl (.inr (.inl hi)))
  have HQ2 := Lib.hid ((ht1.block _ (block_lt HQ1.out) (by show ¬ w.heap.size = mb; omega)).trans HQ1.out)
  have hsbm : sb ≠ mb := by
    rintro rfl
    obtain ⟨es, cl, he⟩ := H.out.now.entries
    have := H.out.blk.symm.trans he
    injection this with this
    cases this
  have hold : ∀ b, b < w.heap.size → b ≠ mb → w1.heap[b]? = w.heap[b]? := fun b hb hne => (ht1.block b (Nat.lt_of_lt_of_le hb HB0.out.size) hne).trans (HB0.out.block b hb)
  have HS1 := Lib.hid ((hold sb H.out.lt hsbm).trans H.out.blk)
  have HK1 := Lib.hid (H.out.disk.keep (hold kb H.out.disk.lt HKB.out))
  have HOLD := Lib.hid hold
  have HT1 := Lib.hid hT1
  clear hm1 ht1 hT1 hold a0 a1
  have a0 := cell_of_block (off := 0) HQ2.out (by show 0 < 3; decide)
  have a1 := cell_of_block (off := 1) HQ2.out (by show 1 < 3; decide)
  have a2 := cell_of_block (off := 2) HQ2.out (by show 2 < 3; decide)
  have c3 := cell_of_block (off := 3) HS1.out (by show 3 < 8; decide)
  go_wp2
  refine wp_region_ord (fun w' => w'.cell? ⟨sb, 3, none⟩ = some log ∧ w'.cell? ⟨w.heap.size, 0, none⟩ = some (.string k) ∧ w'.cell? ⟨w.heap.size, 1, none⟩ = some (.string v) ∧ w'.cell? ⟨w.heap.size, 2, none⟩ = some (.bool false)) [(0, false), (1, false), (2, false), (3, false), (4, false), (5, false), (6, true), (7, true), (8, false), (9, false), (10, true)] (by kernel_rfl) (by kernel_rfl) (fun _ _ d _ _ h => by cases d <;> exact h) ⟨c3, a0, a1, a2⟩ ?_
  iterate 6
    refine heldL ?_ ?_ (by rfl) (by rfl) (fun w' s1 => ?_) ?_ ?_
    rotate_left 2
    focus (obtain ⟨s1, s2, s3, s4⟩ := s1; go_simp; exact rfl)
    focus (go_simp; exact rfl)
  have hs1 : sb < w1.drew.heap.size := block_lt HS1.out
  have hs2 : w.heap.size < w1.drew.heap.size := block_lt HQ2.out
  have HBK := Lib.hid (Below.refl w1.drew.heap.size w1.drew)
  refine actSL (by rfl) (by rfl) (fun K hK => ?_)
  go_wp2_with fail
  refine hK _ _ ⟨((HBK.out.alloc (Nat.le_refl _) _).cell (p := ⟨sb, 3, none⟩) hs1).trans c3, ((HBK.out.alloc (Nat.le_refl _) _).cell (p := ⟨w.heap.size, 0, none⟩) hs2).trans a0, ((HBK.out.alloc (Nat.le_refl _) _).cell (p := ⟨w.heap.size, 1, none⟩) hs2).trans a1, ((HBK.out.alloc (Nat.le_refl _) _).cell (p := ⟨w.heap.size, 2, none⟩) hs2).trans a2⟩ ?_
  clear hK
  obtain ⟨w3, hw3⟩ : ∃ w3, w3 = (w1.alloc (.cells #[.string k, .string v, .bool false] 187)).drew := ⟨_, rfl⟩
  have hnew : w3.heap[w1.heap.size]? = some (.cells #[.string k, .string v, .bool false] 187 (0, 0)) := by rw [hw3]; exact (MapKept.heap_alloc w1 _).1
  have hB3 : Below w1.heap.size w1 w3 := by rw [hw3]; exact ((Below.refl _ _).alloc (Nat.le_refl _) _).drew
  have hown3 : w3.ownsRow 0 187 3 log lk us := own_keep H.out.own fun b cur hb => by
    have hb' := block_lt hb
    have hne : b ≠ mb := by
      rintro rfl
      obtain ⟨es, cl, he⟩ := H.out.now.entries
      have := hb.symm.trans he
      injection this with this
      cases this
    exact (hB3.block b (Nat.lt_of_lt_of_le hb' HT1.out.size)).trans (HOLD.out b hb' hne)
  have HO3 := Lib.hid hown3
  have HB3 := Lib.hid hB3
  have hz : w3.heap.size = w1.heap.size + 1 := by rw [hw3]; show (w1.alloc (.cells #[.string k, .string v, .bool false] 187)).heap.size = _; exact Array.size_push _
  have HZ3 := Lib.hid hz
  obtain ⟨nb, hnb⟩ : ∃ nb, nb = w1.heap.size := ⟨_, rfl⟩
  have HNB := Lib.hid hnb
  rw [← hw3, ← hnb]
  rw [← hnb] at hnew
  have HNEW := Lib.hid hnew
  clear hw3 hB3 hown3 hz hnb hnew
  refine actSL (by rfl) (by rfl) (fun K hK => ?_)
  refine wp_append_sz (.tmp 17) (.tmp 19) 104 (by rfl) 0 187 iW _ 3 40 Tryz.underlying104 hiW hz0 hz1 hz2 rfl (by decide) log lk us (by rfl) HO3.out ⟨nb, 0, none⟩ 1 1 [.string k, .string v, .bool false] (by rfl) (by rfl) (World.news_of_block HNEW.out) (by intro u hu; simp at hu; rcases hu with rfl | rfl | rfl <;> rfl) (by have := HLK.out; unfold maxLen; omega) (by have := HLK.out; omega) (Nat.zero_le _) ?_
  intro log' w4 hown4 hg4 hob4
  obtain ⟨A4, l4, cap4, rfl⟩ : ∃ A l c, log' = .slice A l c := by
    rcases hown4.2 with ⟨h, _⟩ | ⟨g, cap, cur, h, _⟩
    · exact ⟨_, _, _, h⟩
    · exact ⟨_, _, _, h⟩
  have hslog : log.ownBlock ≠ some sb := by
    intro he
    obtain ⟨cur, hc⟩ := own_block H.out.own he
    have := H.out.blk.symm.trans hc
    simp at this
  have hold4 : ∀ b, b < w1.heap.size → log.ownBlock ≠ some b → w4.heap[b]? = w1.heap[b]? := fun b hb hne =>
    (hg4.block b (Nat.lt_of_lt_of_le hb HB3.out.size) (fun e => hne e.symm)).trans (HB3.out.block b hb)
  have hlogold : ∀ b, log.ownBlock = some b → b < w.heap.size := fun b hb => by
    obtain ⟨cur, hc⟩ := own_block H.out.own hb
    exact block_lt hc
  have HS4 := Lib.hid ((hold4 sb (block_lt HS1.out) hslog).trans HS1.out)
  have HQ4 := Lib.hid ((hold4 w.heap.size (block_lt HQ2.out) (fun e => by have := hlogold _ e; omega)).trans HQ2.out)
  have HO4 := Lib.hid hown4
  have HOB4 := Lib.hid hob4
  have HG4 := Lib.hid hg4
  have HD4 := Lib.hid hold4
  refine hK _ _ ⟨cell_of_block (off := 3) HS4.out (by show 3 < 8; decide), cell_of_block (off := 0) HQ4.out (by show 0 < 3; decide), cell_of_block (off := 1) HQ4.out (by show 1 < 3; decide), cell_of_block (off := 2) HQ4.out (by show 2 < 3; decide)⟩ ?_
  clear hK hown4 hg4 hob4 hold4 hslog a0 a1 a2 c3
  have c3 := cell_of_block (off := 3) HS4.out (by show 3 < 8; decide)
  have e3 := frozen_of_block (off := 3) HS4.out
  iterate 2
    refine heldL ?_ ?_ (by rfl) (by rfl) (fun w' s1 => ?_) ?_ ?_
    rotate_left 2
    focus (obtain ⟨s1, s2, s3, s4⟩ := s1; go_simp; exact rfl)
    focus (go_simp; exact rfl)
  refine actL (by kernel_rfl) (by rfl) (by rfl) (fun K hK => ?_)
  go_wp2_with fail
  refine nilL ?_
  clear c3 e3
  have hnomap : ∀ b (es : Array MapEntry) cl, w.heap[b]? = some (.map es cl) → log.ownBlock ≠ some b := by
    intro b es cl he h
    obtain ⟨cur, hc⟩ := own_block H.out.own h
    have := he.symm.trans hc
    injection this with this
    cases this
  have hsk : sb ≠ kb := by
    rintro rfl
    obtain ⟨es, cl, he⟩ := H.out.disk.entries
    have := H.out.blk.symm.trans he
    injection this with this
    cases this
  have hm4 : w4.heap[mb]? = w1.heap[mb]? := HD4.out mb HM1.out.lt (by obtain ⟨es, cl, he⟩ := H.out.now.entries; exact hnomap mb es cl he)
  have hk4 : w4.heap[kb]? = w1.heap[kb]? := HD4.out kb HK1.out.lt (by obtain ⟨es, cl, he⟩ := H.out.disk.entries; exact hnomap kb es cl he)
  have HST := Lib.hid (show StoreIs (w4.setCell ⟨sb, 3, none⟩ (.slice A4 l4 cap4)) sb mb kb room (updF f (.string k.data.toList) (some (.string v))) g (grow (f (.string k.data.toList)) n) m (.slice A4 l4 cap4) (lk + 1) (us ++ [.string k, .string v, .bool false]) used false 0 age from
    ⟨block_setCell (off := 3) HS4.out (.slice A4 l4 cap4), HM1.out.keep ((block_other hsbm _).trans hm4), HK1.out.keep ((block_other hsk _).trans hk4), own_keep HO4.out fun b cur hb => block_other (fun e => by
      subst e
      have := HS4.out.symm.trans hb
      simp at this) _⟩)
  have HTF := Lib.hid (show Turn (fun b => b = sb ∨ b = mb ∨ log.ownBlock = some b) w (w4.setCell ⟨sb, 3, none⟩ (.slice A4 l4 cap4)) from
    ((HT1.out.trans (Turn.of_below HB3.out)).grown HG4.out (fun k hk => .inl (.inr (.inr hk)))).setCell (p := ⟨sb, 3, none⟩) (.inl (.inl rfl)) _)
  have HOB := Lib.hid (show ∀ b, (Value.slice A4 l4 cap4).ownBlock = some b → log.ownBlock = some b ∨ w.heap.size ≤ b from fun b hb => (HOB4.out b hb).imp id (fun h => Nat.le_trans (Nat.le_trans HT1.out.size HB3.out.size) h))
  clear hnomap hsk hm4 hk4 hlogold hsbm
  go_wp2_with fail
  refine (strikes_calls HST.out).mono ?_
  rintro r wz ⟨rfl, rfl⟩
  go_wp2
  go_ret
  exact ⟨rfl, ⟨_, HST.out, HOB.out⟩, HTF.out⟩
end Go.Proofs.YtblkehdpenfhjaaGreatDoor
/-
  Package store: Put.
-/
set_option linter.unusedVariables false
set_option linter.unusedSimpArgs false
namespace Go.Proofs.YtblkehdpenfhjaaGreatDoor
open Go.RowKit Go.Maps Go.ChangeMaps Go.MapKept

def oldCost (k : ByteArray) (o : Option Value) : Nat := match o with
  | some (.string u) => k.size + u.size + 16
  | _ => 0
set_option maxHeartbeats 4000000 in
set_option maxRecDepth 100000 in
theorem put_calls (k v : ByteArray) (hk1 : 1 ≤ k.size) (hk2 : k.size ≤ 64) (hv : v.size ≤ 1048576) {w : World} {sb mb kb room n m : Nat} {f g : Lit → Option Value} {log : Value} {us : List Value} {lk used age : Nat}
    (h : StoreIs w sb mb kb room f g n m log lk us used false 0 age) (hn : n < maxLen) (hlk : lk ≤ 1000000000) (hkb : kb ≠ mb)
    (hf : f (.string k.data.toList) = none) (hu : used + (k.size + v.size + 16) ≤ room) (hr : room ≤ 1073741824) :
    Calls Tryz.prog 106 #[.pointer (some ⟨sb, 0, none⟩), .string k, .string v] w fun r w' => r = .returned (.int .i64 0) ∧
      (∃ log', StoreIs w' sb mb kb room (updF f (.string k.data.toList) (some (.string v))) g (n + 1) m log' (lk + 1) (us ++ [.string k, .string v, .bool false]) (used + (k.size + v.size + 16)) false 0 age ∧ (∀ b, log'.ownBlock = some b → log.ownBlock = some b ∨ w.heap.size ≤ b)) ∧
      Turn (fun b => b = sb ∨ b = mb ∨ log.ownBlock = some b) w w' := by
  have c5 := cell_of_block (off := 5) h.blk (by show 5 < 8; decide)
  have c4 := cell_of_block (off := 4) h.blk (by show 4 < 8; decide)
  have c1 := cell_of_block (off := 1) h.blk (by show 1 < 8; decide)
  have c0 := cell_of_block (off := 0) h.blk (by show 0 < 8; decide)
  have e4 := frozen_of_block (off := 4) h.blk
  have H := Lib.hid h
  have kv : (v.size : Int) ≤ 1048576 := by omega
  have HK1 := Lib.hid hk1
  have HK2 := Lib.hid hk2
  have HV := Lib.hid hv
  have HU := Lib.hid hu
  have HR := Lib.hid hr
  have HF := Lib.hid hf
  clear h hk1 hk2 hv hu hr hf
  have HH := Lib.hid (And.intro hn (And.intro hlk hkb))
  clear hn hlk hkb
  go_enter Tryz.func106, Tryz.ntmps106
  go_wp2_with fail
  refine (keyed_calls k HK1.out HK2.out w).mono ?_
  rintro r w1 ⟨rfl, rfl⟩
  go_wp2
  obtain ⟨cost, hcost⟩ : ∃ c, c = k.size + v.size + 16 := ⟨_, rfl⟩
  have HCO := Lib.hid (show ∀ w, Calls Tryz.prog 156 #[.string k, .string v] w fun r w' => r = .returned (.int .i64 (cost : Int)) ∧ w = w' by
    rw [hcost]; exact fun w => costs_calls k v (by have := HK2.out; omega) (by have := HV.out; omega) w)
  obtain ⟨tot, htot⟩ : ∃ t, t = used + cost := ⟨_, rfl⟩
  have htr : tot ≤ room := by rw [htot, hcost]; exact HU.out
  have hroom : room ≤ 1073741824 := HR.out
  have hti : (used : Int) + (cost : Int) = (tot : Int) := by omega
  have HTOT := Lib.hid (show used + (k.size + v.size + 16) = tot by rw [htot, hcost])
  clear hcost htot
  refine wp_region_ord (fun w' => w'.cell? ⟨sb, 4, none⟩ = some (.int .i64 (used : Int))) [(0, false), (1, false), (2, false), (3, false), (4, false), (5, false), (6, true), (7, false), (8, false)] (by kernel_rfl) (by kernel_rfl) (fun _ _ d _ _ h => by cases d <;> exact h) c4 ?_
  iterate 6
    refine heldL ?_ ?_ (by rfl) (by rfl) (fun w' s1 => ?_) ?_ ?_
    rotate_left 2
    focus (go_simp; exact rfl)
    focus (go_simp; exact rfl)
  refine actSL (by rfl) (by rfl) (fun K hK => ?_)
  go_wp2_with fail
  refine (HCO.out _).mono ?_
  rintro r w1 ⟨rfl, rfl⟩
  refine hK _ _ c4 ?_
  clear hK
  have hwr : IntKind.i64.wrap (tot : Int) = (tot : Int) := by simp [IntKind.wrap, IntKind.signed, IntKind.bits]; omega
  iterate 2
    refine heldL ?_ ?_ (by rfl) (by rfl) (fun w' s1 => ?_) ?_ ?_
    rotate_left 2
    focus (go_simp; exact rfl)
    focus (go_simp; exact rfl)
  refine nilL ?_
  obtain ⟨w2, hw2⟩ : ∃ w2, w2 = w.drew := ⟨_, rfl⟩
  have H2 := Lib.hid (show StoreIs w2 sb mb kb room f g n m log lk us used false 0 age by rw [hw2]; exact ⟨H.out.blk, H.out.now.keep rfl, H.out.disk.keep rfl, own_keep H.out.own fun _ _ _ => rfl⟩)
  have HT2 := Lib.hid (show Turn (fun b => b = sb ∨ b = mb ∨ log.ownBlock = some b) w w2 by rw [hw2]; exact (Turn.refl _ _).drew)
  have hlook := H2.out.now.look keyedS Tryz.underlying103 (Tryz.zeroValue9 w2) (key := .string k) (WideMaps.keyOf_string_mk Tryz.underlying9 (by have := HK2.out; unfold maxLen; omega))
  rw [HF.out] at hlook
  simp only [Option.getD_none, Option.isSome_none] at hlook
  go_simp
  try rw [hwr]
  rw [← hw2]
  clear hw2 hwr c0 c1 c4 c5 e4
  have c4 := cell_of_block (off := 4) H2.out.blk (by show 4 < 8; decide)
  have c1 := cell_of_block (off := 1) H2.out.blk (by show 1 < 8; decide)
  have c0 := cell_of_block (off := 0) H2.out.blk (by show 0 < 8; decide)
  have e4 := frozen_of_block (off := 4) H2.out.blk
  have kle : decide ((room : Int) < (tot : Int)) = false := decide_eq_false (by omega)
  have kle2 : decide (room < tot) = false := decide_eq_false (by omega)
  go_wp2_with fail
  have hsbm : sb ≠ mb := by
    rintro rfl
    obtain ⟨es, cl, he⟩ := H2.out.now.entries
    have := H2.out.blk.symm.trans he
    injection this with this
    cases this
  have hsk : sb ≠ kb := by
    rintro rfl
    obtain ⟨es, cl, he⟩ := H2.out.disk.entries
    have := H2.out.blk.symm.trans he
    injection this with this
    cases this
  have H3 := Lib.hid (show StoreIs (w2.setCell ⟨sb, 4, none⟩ (.int .i64 (tot : Int))) sb mb kb room f g n m log lk us tot false 0 age from
    ⟨block_setCell (off := 4) H2.out.blk (.int .i64 (tot : Int)), H2.out.now.keep (block_other hsbm _), H2.out.disk.keep (block_other hsk _), own_keep H2.out.own fun b cur hb => block_other (fun e => by
      subst e
      have := H2.out.blk.symm.trans hb
      simp at this) _⟩)
  have HT3 := Lib.hid (HT2.out.setCell (p := ⟨sb, 4, none⟩) (.inl (.inl rfl)) (.int .i64 (tot : Int)))
  clear hsbm hsk c0 c1 c4 e4 hlook
  refine (done_calls k v (by have := HK2.out; unfold maxLen; omega) H3.out HH.out.1 HH.out.2.1 HH.out.2.2).mono ?_
  rintro r w4 ⟨rfl, ⟨log', hS4, hO4⟩, hT4⟩
  have HS4 := Lib.hid hS4
  have HO4 := Lib.hid hO4
  have HT4 := Lib.hid (HT3.out.trans hT4)
  have HSZ := Lib.hid HT3.out.size
  clear hS4 hO4 hT4
  go_wp2
  go_ret
  refine ⟨rfl, ⟨log', ?_, fun b hb => (HO4.out b hb).imp id (fun h => Nat.le_trans HSZ.out h)⟩, HT4.out⟩
  have h4 := HS4.out
  rw [HF.out] at h4
  rw [HTOT.out]
  exact h4
end Go.Proofs.YtblkehdpenfhjaaGreatDoor
/-
  Package store: Put of a key that is there.
-/
set_option linter.unusedVariables false
set_option linter.unusedSimpArgs false
namespace Go.Proofs.YtblkehdpenfhjaaGreatDoor
open Go.RowKit Go.Maps Go.ChangeMaps Go.MapKept

set_option maxHeartbeats 4000000 in
set_option maxRecDepth 100000 in
theorem putOver_calls (k v : ByteArray) (hk1 : 1 ≤ k.size) (hk2 : k.size ≤ 64) (hv : v.size ≤ 1048576) {w : World} {sb mb kb room n m : Nat} {f g : Lit → Option Value} {log : Value} {us : List Value} {lk used age : Nat}
    (h : StoreIs w sb mb kb room f g n m log lk us used false 0 age) (hn : n < maxLen) (hlk : lk ≤ 1000000000) (hkb : kb ≠ mb)
    (u : ByteArray) (hf : f (.string k.data.toList) = some (.string u)) (hus : u.size ≤ 1048576) (hu : used + (k.size + v.size + 16) ≤ room + (k.size + u.size + 16)) (hu2 : k.size + u.size + 16 ≤ used) (huu : used ≤ room) (hr : room ≤ 1073741824) :
    Calls Tryz.prog 106 #[.pointer (some ⟨sb, 0, none⟩), .string k, .string v] w fun r w' => r = .returned (.int .i64 0) ∧
      (∃ log', StoreIs w' sb mb kb room (updF f (.string k.data.toList) (some (.string v))) g n m log' (lk + 1) (us ++ [.string k, .string v, .bool false]) (used + (k.size + v.size + 16) - (k.size + u.size + 16)) false 0 age ∧ (∀ b, log'.ownBlock = some b → log.ownBlock = some b ∨ w.heap.size ≤ b)) ∧
      Turn (fun b => b = sb ∨ b = mb ∨ log.ownBlock = some b) w w' := by
  have c5 := cell_of_block (off := 5) h.blk (by show 5 < 8; decide)
  have c4 := cell_of_block (off := 4) h.blk (by show 4 < 8; decide)
  have c1 := cell_of_block (off := 1) h.blk (by show 1 < 8; decide)
  have c0 := cell_of_block (off := 0) h.blk (by show 0 < 8; decide)
  have e4 := frozen_of_block (off := 4) h.blk
  have H := Lib.hid h
  have kv : (v.size : Int) ≤ 1048576 := by omega
  have HK1 := Lib.hid hk1
  have HK2 := Lib.hid hk2
  have HV := Lib.hid hv
  have HR := Lib.hid hr
  have HF := Lib.hid hf
  obtain ⟨co, hco⟩ : ∃ c, c = k.size + u.size + 16 := ⟨_, rfl⟩
  rw [← hco] at hu hu2 ⊢
  have HCU := Lib.hid (show ∀ w, Calls Tryz.prog 156 #[.string k, .string u] w fun r w' => r = .returned (.int .i64 (co : Int)) ∧ w = w' by
    rw [hco]; exact fun w => costs_calls k u (by omega) (by omega) w)
  have HU := Lib.hid hu
  have HU2 := Lib.hid hu2
  have HUU := Lib.hid huu
  clear h hk1 hk2 hv hu hr hf hus hu2 huu hco
  have HH := Lib.hid (And.intro hn (And.intro hlk hkb))
  clear hn hlk hkb
  go_enter Tryz.func106, Tryz.ntmps106
  go_wp2_with fail
  refine (keyed_calls k HK1.out HK2.out w).mono ?_
  rintro r w1 ⟨rfl, rfl⟩
  go_wp2
  obtain ⟨cost, hcost⟩ : ∃ c, c = k.size + v.size + 16 := ⟨_, rfl⟩
  have HCO := Lib.hid (show ∀ w, Calls Tryz.prog 156 #[.string k, .string v] w fun r w' => r = .returned (.int .i64 (cost : Int)) ∧ w = w' by
    rw [hcost]; exact fun w => costs_calls k v (by have := HK2.out; omega) (by have := HV.out; omega) w)
  obtain ⟨tot, htot⟩ : ∃ t, t = used + cost := ⟨_, rfl⟩
  have htr : tot ≤ room + co := by rw [htot, hcost]; exact HU.out
  have htu : tot = used + cost := htot
  have htb : tot ≤ 2147483648 + 2147483648 := by have := HUU.out; have := HK2.out; have := HV.out; have := HR.out; omega
  have hcu : co ≤ tot := by have := HU2.out; omega
  have HTU := Lib.hid htu
  clear htu
  have hroom : room ≤ 1073741824 := HR.out
  have hti : (used : Int) + (cost : Int) = (tot : Int) := by omega
  have HTOT := Lib.hid (show used + (k.size + v.size + 16) = tot by rw [htot, hcost])
  clear hcost htot
  refine wp_region_ord (fun w' => w'.cell? ⟨sb, 4, none⟩ = some (.int .i64 (used : Int))) [(0, false), (1, false), (2, false), (3, false), (4, false), (5, false), (6, true), (7, false), (8, false)] (by kernel_rfl) (by kernel_rfl) (fun _ _ d _ _ h => by cases d <;> exact h) c4 ?_
  iterate 6
    refine heldL ?_ ?_ (by rfl) (by rfl) (fun w' s1 => ?_) ?_ ?_
    rotate_left 2
    focus (go_simp; exact rfl)
    focus (go_simp; exact rfl)
  refine actSL (by rfl) (by rfl) (fun K hK => ?_)
  go_wp2_with fail
  refine (HCO.out _).mono ?_
  rintro r w1 ⟨rfl, rfl⟩
  refine hK _ _ c4 ?_
  clear hK
  have hwr : IntKind.i64.wrap (tot : Int) = (tot : Int) := by simp [IntKind.wrap, IntKind.signed, IntKind.bits]; omega
  iterate 2
    refine heldL ?_ ?_ (by rfl) (by rfl) (fun w' s1 => ?_) ?_ ?_
    rotate_left 2
    focus (go_simp; exact rfl)
    focus (go_simp; exact rfl)
  refine nilL ?_
  obtain ⟨w2, hw2⟩ : ∃ w2, w2 = w.drew := ⟨_, rfl⟩
  have H2 := Lib.hid (show StoreIs w2 sb mb kb room f g n m log lk us used false 0 age by rw [hw2]; exact ⟨H.out.blk, H.out.now.keep rfl, H.out.disk.keep rfl, own_keep H.out.own fun _ _ _ => rfl⟩)
  have HT2 := Lib.hid (show Turn (fun b => b = sb ∨ b = mb ∨ log.ownBlock = some b) w w2 by rw [hw2]; exact (Turn.refl _ _).drew)
  have hlook := H2.out.now.look keyedS Tryz.underlying103 (Tryz.zeroValue9 w2) (key := .string k) (WideMaps.keyOf_string_mk Tryz.underlying9 (by have := HK2.out; unfold maxLen; omega))
  rw [HF.out] at hlook
  simp only [Option.getD_some, Option.isSome_some] at hlook
  go_simp
  try rw [hwr]
  rw [← hw2]
  clear hw2 hwr c0 c1 c4 c5 e4
  have c4 := cell_of_block (off := 4) H2.out.blk (by show 4 < 8; decide)
  have c1 := cell_of_block (off := 1) H2.out.blk (by show 1 < 8; decide)
  have c0 := cell_of_block (off := 0) H2.out.blk (by show 0 < 8; decide)
  have e4 := frozen_of_block (off := 4) H2.out.blk
  obtain ⟨net, hnet⟩ : ∃ x, x = tot - co := ⟨_, rfl⟩
  have hni : (tot : Int) - (co : Int) = (net : Int) := by omega
  have hnr : net ≤ room := by omega
  have HNET := Lib.hid hnet
  clear hnet
  have kle : decide ((room : Int) < (net : Int)) = false := decide_eq_false (by omega)
  have kle2 : decide (room < net) = false := decide_eq_false (by omega)
  go_wp2_with fail
  refine (HCU.out _).mono ?_
  rintro r w1 ⟨rfl, rfl⟩
  go_wp2_with fail
  have hsbm : sb ≠ mb := by
    rintro rfl
    obtain ⟨es, cl, he⟩ := H2.out.now.entries
    have := H2.out.blk.symm.trans he
    injection this with this
    cases this
  have hsk : sb ≠ kb := by
    rintro rfl
    obtain ⟨es, cl, he⟩ := H2.out.disk.entries
    have := H2.out.blk.symm.trans he
    injection this with this
    cases this
  have H3 := Lib.hid (show StoreIs (w2.setCell ⟨sb, 4, none⟩ (.int .i64 (net : Int))) sb mb kb room f g n m log lk us net false 0 age from
    ⟨block_setCell (off := 4) H2.out.blk (.int .i64 (net : Int)), H2.out.now.keep (block_other hsbm _), H2.out.disk.keep (block_other hsk _), own_keep H2.out.own fun b cur hb => block_other (fun e => by
      subst e
      have := H2.out.blk.symm.trans hb
      simp at this) _⟩)
  have HT3 := Lib.hid (HT2.out.setCell (p := ⟨sb, 4, none⟩) (.inl (.inl rfl)) (.int .i64 (net : Int)))
  clear hsbm hsk c0 c1 c4 e4 hlook
  refine (done_calls k v (by have := HK2.out; unfold maxLen; omega) H3.out HH.out.1 HH.out.2.1 HH.out.2.2).mono ?_
  rintro r w4 ⟨rfl, ⟨log', hS4, hO4⟩, hT4⟩
  have HS4 := Lib.hid hS4
  have HO4 := Lib.hid hO4
  have HT4 := Lib.hid (HT3.out.trans hT4)
  have HSZ := Lib.hid HT3.out.size
  clear hS4 hO4 hT4
  go_wp2
  go_ret
  refine ⟨rfl, ⟨log', ?_, fun b hb => (HO4.out b hb).imp id (fun h => Nat.le_trans HSZ.out h)⟩, HT4.out⟩
  have h4 := HS4.out
  rw [HF.out] at h4
  rw [HTOT.out, ← HNET.out]
  exact h4
end Go.Proofs.YtblkehdpenfhjaaGreatDoor
/-
  Package book: prefix.
-/
set_option linter.unusedVariables false
set_option linter.unusedSimpArgs false
namespace Go.Proofs.YtblkehdpenfhjaaGreatDoor
open Go.RowKit

set_option maxRecDepth 100000 in
theorem prefix_calls (n : Nat) (hn : n < 9223372036854775808) (w : World) :
    Calls Tryz.prog 203 #[.int .i64 n] w fun r w' => r = .returned (.string (mk (66 :: beL 8 n))) ∧ Below w.heap.size w w' := by
  have hw : IntKind.u64.wrap (n : Int) = (n : Int) := by simp [IntKind.wrap, IntKind.signed, IntKind.bits]; omega
  have HN := Lib.hid hn
  obtain ⟨y, hy⟩ : ∃ y, y = mk (beL 8 n) := ⟨_, rfl⟩
  have hys : y.size = 8 := by rw [hy, mk_size, beL_len]
  have hsum : ∀ w, (Op.stringOp .add (⟨#[66]⟩ : ByteArray) y).run Tryz.prog w = .ok (.string (mk (66 :: beL 8 n))) w := fun w => by
    rw [run_string_add_sum w _ y (by rw [hys]; decide)]
    congr 2
    rw [hy]
    exact mk_app [66] (beL 8 n)
  have HY := Lib.hid hy
  clear hy hn hys
  obtain ⟨z, hz⟩ : ∃ z, z = mk (66 :: beL 8 n) := ⟨_, rfl⟩
  rw [← hz] at hsum ⊢
  clear hz
  go_enter Tryz.func203, Tryz.ntmps203
  go_wp2_with fail
  refine (putBE8_calls n (by have := HN.out; omega) w).mono ?_
  rintro r w1 ⟨rfl, hb⟩
  rw [← HY.out]
  have HB := Lib.hid hb
  clear hb
  go_wp2
  go_ret
  exact ⟨rfl, HB.out⟩
end Go.Proofs.YtblkehdpenfhjaaGreatDoor
/-
  Package book: Frame.
-/
set_option linter.unusedVariables false
set_option linter.unusedSimpArgs false
namespace Go.Proofs.YtblkehdpenfhjaaGreatDoor
open Go.RowKit

def frameB (kind gen : Nat) (x : List UInt8) : List UInt8 := [165, UInt8.ofNat kind] ++ beL 8 gen ++ beL 4 x.length ++ x
def frameL (kind gen : Nat) (x : List UInt8) : List UInt8 := frameB kind gen x ++ beL 4 (crcF (mk (frameB kind gen x)))
set_option maxHeartbeats 4000000 in
set_option maxRecDepth 100000 in
theorem frame_calls (kind gen : Nat) (hk1 : 1 ≤ kind) (hk2 : kind ≤ 255) (hg : gen < 9223372036854775808) (x : ByteArray) (hx : x.size ≤ 524288) (w : World) :
    Calls Tryz.prog 139 #[.int .i64 kind, .int .i64 gen, .string x] w fun r w' => r = .returned (.tuple #[.string (mk (frameL kind gen x.data.toList)), .int .i64 0]) ∧ Below w.heap.size w w' := by
  have hw : IntKind.u64.wrap (gen : Int) = (gen : Int) := by simp [IntKind.wrap, IntKind.signed, IntKind.bits]; omega
  have hw8 : IntKind.u8.wrap (kind : Int) = (kind : Int) := by simp [IntKind.wrap, IntKind.signed, IntKind.bits]; omega
  have hwx : IntKind.u64.wrap (x.size : Int) = (x.size : Int) := by simp [IntKind.wrap, IntKind.signed, IntKind.bits]; omega
  have n1 : ¬ ((kind : Int) < 1) := by omega
  have n2 : ¬ (255 < (kind : Int)) := by omega
  have n3 : ¬ (524288 < (x.size : Int)) := by omega
  have HG := Lib.hid hg
  have HX := Lib.hid hx
  clear hg hx
  go_enter Tryz.func139, Tryz.ntmps139
  go_wp2_with fail
  refine (putBE8_calls gen (by have := HG.out; omega) w).mono ?_
  rintro r w1 ⟨rfl, hb1⟩
  obtain ⟨y, hy⟩ : ∃ y, y = mk (beL 8 gen) := ⟨_, rfl⟩
  have HY := Lib.hid hy
  rw [← hy]
  have HB1 := Lib.hid hb1
  clear hb1 hy
  go_wp2_with fail
  refine (putBE4_calls x.size (by have := HX.out; omega) w1).mono ?_
  rintro r w2 ⟨rfl, hb2⟩
  obtain ⟨z, hz⟩ : ∃ z, z = mk (beL 4 x.size) := ⟨_, rfl⟩
  have HZ := Lib.hid hz
  rw [← hz]
  have HB2 := Lib.hid (HB1.out.trans (hb2.mono HB1.out.size))
  clear hb2 hz
  obtain ⟨w3, hw3⟩ : ∃ w3, w3 = w2.alloc (.cells #[.int .u8 165, .int .u8 (kind : Int)] 5) := ⟨_, rfl⟩
  have hkb : bv (UInt8.ofNat kind) = .int .u8 (kind : Int) := by rw [bv_ofNat, Nat.mod_eq_of_lt (by omega)]
  have hrow : Row 5 w3 (.slice (some ⟨w2.heap.size, 0, none⟩) 2 2) ([165, UInt8.ofNat kind].map bv) (fun _ => True) :=
    .inr ⟨w2.heap.size, 2, #[.int .u8 165, .int .u8 (kind : Int)], rfl, trivial, by rw [hw3]; exact (MapKept.heap_alloc w2 _).1, Nat.le_refl _, by unfold maxLen; decide, rfl, by simp only [List.map_cons, List.map_nil, hkb]; rfl⟩
  have hconv := row_string hrow
  have HB3 := Lib.hid (show Below w.heap.size w w3 by rw [hw3]; exact HB2.out.alloc HB2.out.size _)
  obtain ⟨a0, ha0⟩ : ∃ a, a = mk [165, UInt8.ofNat kind] := ⟨_, rfl⟩
  have s0 : a0.size = 2 := by rw [ha0, mk_size]; rfl
  have sy : y.size = 8 := by rw [HY.out, mk_size, beL_len]
  have sz : z.size = 4 := by rw [HZ.out, mk_size, beL_len]
  obtain ⟨a1, ha1⟩ : ∃ a, a = a0 ++ y := ⟨_, rfl⟩
  obtain ⟨a2, ha2⟩ : ∃ a, a = a1 ++ z := ⟨_, rfl⟩
  obtain ⟨a3, ha3⟩ : ∃ a, a = a2 ++ x := ⟨_, rfl⟩
  have s1 : a1.size = 10 := by rw [ha1, ByteArray.size_append]; omega
  have s2 : a2.size = 14 := by rw [ha2, ByteArray.size_append]; omega
  have s3 : a3.size ≤ 524302 := by rw [ha3, ByteArray.size_append]; have := HX.out; omega
  have p1 : ∀ w, (Op.stringOp .add a0 y).run Tryz.prog w = .ok (.string a1) w := fun w => by rw [ha1]; exact run_string_add_sum w a0 y (by omega)
  have p2 : ∀ w, (Op.stringOp .add a1 z).run Tryz.prog w = .ok (.string a2) w := fun w => by rw [ha2]; exact run_string_add_sum w a1 z (by omega)
  have p3 : ∀ w, (Op.stringOp .add a2 x).run Tryz.prog w = .ok (.string a3) w := fun w => by rw [ha3]; exact run_string_add_sum w a2 x (by have := HX.out; omega)
  have HA3 := Lib.hid (show a3.data.toList = frameB kind gen x.data.toList by
    rw [ha3, ha2, ha1, ha0, HY.out, HZ.out]
    simp [frameB, ByteArray.data_append, mk])
  rw [hw3] at hconv
  rw [← ha0] at hconv
  have HA3S := Lib.hid s3
  clear hrow ha0 ha1 ha2 ha3 s0 s1 s2 s3 sy sz hkb
  go_wp2_with fail
  rw [← hw3]
  refine (crc_calls a3 (by have := HA3S.out; unfold maxLen; omega) w3).mono ?_
  rintro r w4 ⟨rfl, hb4⟩
  have HB4 := Lib.hid (HB3.out.trans (hb4.mono HB3.out.size))
  have hc := crcF_lt a3
  obtain ⟨c, hce⟩ : ∃ c, c = crcF a3 := ⟨_, rfl⟩
  have HCE := Lib.hid hce
  rw [← hce] at hc ⊢
  clear hb4 hce hconv hw3 p1 p2 p3
  go_wp2_with fail
  refine (putBE4_calls c hc w4).mono ?_
  rintro r w5 ⟨rfl, hb5⟩
  obtain ⟨u, hu⟩ : ∃ u, u = mk (beL 4 c) := ⟨_, rfl⟩
  have su : u.size = 4 := by rw [hu, mk_size, beL_len]
  have p4 : ∀ w, (Op.stringOp .add a3 u).run Tryz.prog w = .ok (.string (a3 ++ u)) w := fun w => run_string_add_sum w a3 u (by have := HA3S.out; omega)
  have HE := Lib.hid (show a3 ++ u = mk (frameL kind gen x.data.toList) from bytes_ext (by
    rw [mk_list]
    unfold frameL
    rw [← HA3.out, mk_data, ← HCE.out, hu]
    simp [ByteArray.data_append, mk]))
  rw [← hu]
  have HB5 := Lib.hid (HB4.out.trans (hb5.mono HB4.out.size))
  clear hb5 hu su
  rw [HE.out] at p4
  go_wp2
  go_ret2
  exact ⟨rfl, HB5.out⟩
end Go.Proofs.YtblkehdpenfhjaaGreatDoor
