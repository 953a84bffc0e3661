/- Contracts of the seat's functions: what each answers, for all arguments. -/
import Derived.Test.YteccfcojjcnokaaDoorA2
import Derived.Test.YteccfcojjcnokaaDoorProg
import Derived.WalkKit
import Derived.Lib.ItoaNum
import Derived.Lib.ItoaLen
import Derived.Laws.Concat
import Derived.Laws.BytesString
import Derived.Below
import Derived.Shelf.LaysM
import Derived.Shelf.Strconv.Itoa4
import Derived.Lib.AppendIntMem
import Derived.Deep.RegionWith
import Derived.Test.YteccfcojjcnokaaDoorA1
import Derived.KernelRfl
import Derived.IntWalk
set_option linter.unusedVariables false
set_option linter.unusedSimpArgs false
set_option linter.deprecated false
section
/- The decimal numeral of the reference: what it computes. -/
namespace Go.Proofs.YteccfcojjcnokaaDoor
open Go Go.Proofs Go.RowKit
theorem conv1 (w : World) (z : Int) (ty : TypeId) : (convert 47 9 (.slice (some ⟨w.heap.size, 0, none⟩) 1 1)).run Tryd.prog (w.alloc (.cells #[.int .u8 z] ty)) = .ok (.string ⟨#[UInt8.ofNat z.toNat]⟩) (w.alloc (.cells #[.int .u8 z] ty)) := by
  rw [run_convert_bytes_string _ 47 9 5 _ _ _ Tryd.underlying47 Tryd.underlying5 Tryd.underlying9, run_bytesToString _ _ 1 1 [z] (by simp [loadCells, loadCellsFrom, Addr.add])]
  rfl
def dig (m : Int) : UInt8 := UInt8.ofNat (48 + m.natAbs % 10)
theorem dig_neg {m : Int} (h : m.tmod 10 < 0) : UInt8.ofNat (wrap64 (48 + wrap64 (-m.tmod 10)) % 256).toNat = dig m := by
  have h1 : (m.tmod 10).natAbs = m.natAbs % 10 := Int.natAbs_tmod m 10
  unfold dig wrap64
  congr 1
  omega
theorem dig_pos {m : Int} (h : 0 ≤ m.tmod 10) : UInt8.ofNat (wrap64 (48 + m.tmod 10) % 256).toNat = dig m := by
  have h1 : (m.tmod 10).natAbs = m.natAbs % 10 := Int.natAbs_tmod m 10
  unfold dig wrap64
  congr 1
  omega
theorem dec_step {m : Int} {ds X : List UInt8} (hc : ¬ (m = 0 ∧ ds ≠ [])) (h : (if m = 0 ∧ ds ≠ [] then ds else Lib.decDigits m.natAbs ++ ds) = X) :
    (if m.tdiv 10 = 0 ∧ dig m :: ds ≠ [] then dig m :: ds else Lib.decDigits (m.tdiv 10).natAbs ++ dig m :: ds) = X := by
  have h1 : (m.tdiv 10).natAbs = m.natAbs / 10 := Int.natAbs_tdiv m 10
  rw [if_neg hc] at h
  rw [← h]
  by_cases h2 : m.tdiv 10 = 0
  · rw [if_pos ⟨h2, by simp⟩, Lib.decDigits, dif_pos (by omega)]
    unfold dig
    rw [show m.natAbs % 10 = m.natAbs by omega]; rfl
  · rw [if_neg (fun c => h2 c.1), Lib.decDigits.eq_1 m.natAbs, dif_neg (by omega), h1]
    simp [dig]
theorem bcat (a : UInt8) (l : List UInt8) : (⟨#[a]⟩ ++ ⟨l.toArray⟩ : ByteArray) = ⟨(a :: l).toArray⟩ := by
  apply ByteArray.ext
  simp [ByteArray.data_append]
theorem bcatL (a l : List UInt8) : (⟨a.toArray⟩ ++ ⟨l.toArray⟩ : ByteArray) = ⟨(a ++ l).toArray⟩ := by
  apply ByteArray.ext
  simp [ByteArray.data_append]
theorem len_of {m : Int} {ds : List UInt8} {n : Int} (h0 : -9223372036854775808 ≤ n) (h1 : n ≤ 9223372036854775807) (h : (if m = 0 ∧ ds ≠ [] then ds else Lib.decDigits m.natAbs ++ ds) = Lib.decDigits n.natAbs) : ds.length ≤ 100 := by
  have h2 : (Lib.decDigits n.natAbs).length ≤ 100 := by
    have := Lib.itoa_length_le n h0 h1
    unfold Lib.itoa at this
    split at this
    · simp at this; omega
    · rw [show n.natAbs = n.toNat by omega]; omega
  rw [← h] at h2
  split at h2
  · exact h2
  · simp at h2; omega
set_option maxRecDepth 100000 in
set_option maxHeartbeats 4000000 in
theorem l1Int_walk (n : Int) (h0 : -9223372036854775808 ≤ n) (h1 : n ≤ 9223372036854775807) (w : World) :
    Calls Tryd.prog 14 #[.int .i64 n] w fun e w' => e = .returned (.string ⟨(Lib.itoa n).toArray⟩) ∧ Below w.heap.size w w' := by
  go_enter Tryd.func14, Tryd.ntmps14
  go_wp2
  go_loopw [0, 3] (fun x s wr => ∃ (m : Int) (ds : List UInt8), x = .int .i64 m ∧ s = .string ⟨ds.toArray⟩ ∧ (if m = 0 ∧ ds ≠ [] then ds else Lib.decDigits m.natAbs ++ ds) = Lib.decDigits n.natAbs ∧ -9223372036854775808 ≤ m ∧ m ≤ 9223372036854775807 ∧ Below w.heap.size w wr)
    (fun x s _ => (intOf x).natAbs + (match s with | .string b => if b.size = 0 then 1 else 0 | _ => 0))
  case atStart => exact ⟨n, [], rfl, rfl, by simp, h0, h1, Below.refl _ _⟩
  case round =>
    obtain ⟨m, ds, rfl, rfl, hrem, hm0, hm1, hnx⟩ := hrel
    have hcv := conv1
    have hlen := len_of h0 h1 hrem
    have hq0 : (m.tdiv 10).natAbs = m.natAbs / 10 := Int.natAbs_tdiv m 10
    go_wp2
    · rename_i e1 e2
      subst e1
      rw [dig_neg e2]
      exact ⟨⟨m.tdiv 10, [dig m], rfl, by rw [bcat], dec_step (by simp) hrem, by omega, by omega, hnx.alloc hnx.size _⟩, by simp [intOf, bcat, ByteArray.size, -Int.natAbs_tdiv]; omega⟩
    · rename_i e1 e2
      subst e1
      rw [dig_pos e2]
      exact ⟨⟨m.tdiv 10, [dig m], rfl, by rw [bcat], dec_step (by simp) hrem, by omega, by omega, hnx.alloc hnx.size _⟩, by simp [intOf, bcat, ByteArray.size, -Int.natAbs_tdiv]; omega⟩
    · rename_i e1 e2 e3
      rw [dig_neg e3]
      have e5 : m ≠ 0 := by simpa [e1] using e2
      exact ⟨⟨m.tdiv 10, dig m :: ds, rfl, by rw [bcat], dec_step (fun c => e5 c.1) hrem, by omega, by omega, hnx.alloc hnx.size _⟩, by simp [intOf, bcat, ByteArray.size, e1, -Int.natAbs_tdiv]; omega⟩
    · rename_i e1 e2 e3
      rw [dig_pos e3]
      have e5 : m ≠ 0 := by simpa [e1] using e2
      exact ⟨⟨m.tdiv 10, dig m :: ds, rfl, by rw [bcat], dec_step (fun c => e5 c.1) hrem, by omega, by omega, hnx.alloc hnx.size _⟩, by simp [intOf, bcat, ByteArray.size, e1, -Int.natAbs_tdiv]; omega⟩
    · rename_i e1 e2 e3
      go_ret
      have e5 : m = 0 := by simpa using e2.2
      rw [if_pos ⟨e5, e1⟩] at hrem
      exact ⟨by simp [Lib.itoa, e3, ← hrem, bcat], hnx⟩
    · rename_i e1 e2 e3
      go_ret
      have e5 : m = 0 := by simpa using e2.2
      rw [if_pos ⟨e5, e1⟩] at hrem
      exact ⟨by simp [Lib.itoa, show ¬ n < 0 by omega, hrem, show n.natAbs = n.toNat by omega], hnx⟩
end Go.Proofs.YteccfcojjcnokaaDoor
end

section
/- The library's numeral of an integer, laid at this program: what it returns where the table of powers holds what its text lays. -/
namespace Go.Proofs.YteccfcojjcnokaaDoor
open Go Go.Proofs Go.Shelf
def laysM173_ren : Go.Shelf.Ren := ⟨fun | 173 => 31 | 246 => 38 | 283 => 49 | 284 => 50 | 285 => 51 | 286 => 52 | 129 => 64 | 317 => 63 | 318 => 65 | 319 => 66 | 320 => 67 | 337 => 71 | 338 => 72 | n => n, fun | 2 => 2 | 3 => 3 | 9 => 9 | 4 => 4 | 171 => 73 | 0 => 0 | 53 => 64 | 37 => 47 | 5 => 5 | 173 => 76 | 212 => 85 | 51 => 86 | 20 => 20 | 213 => 87 | 46 => 67 | 232 => 101 | 233 => 102 | n => n, fun | 17 => 3 | 18 => 6 | 19 => 7 | n => n⟩
theorem laysM173 : Go.Proofs.LaysM.n173 Tryd.prog laysM173_ren := {
  mixed := by kernel_rfl
  f129 := Tryd.func64.trans (congrArg some (by kernel_rfl))
  f173 := Tryd.func31.trans (congrArg some (by kernel_rfl))
  f246 := Tryd.func38.trans (congrArg some (by kernel_rfl))
  f283 := Tryd.func49.trans (congrArg some (by kernel_rfl))
  f284 := Tryd.func50.trans (congrArg some (by kernel_rfl))
  f285 := Tryd.func51.trans (congrArg some (by kernel_rfl))
  f286 := Tryd.func52.trans (congrArg some (by kernel_rfl))
  f317 := Tryd.func63.trans (congrArg some (by kernel_rfl))
  f318 := Tryd.func65.trans (congrArg some (by kernel_rfl))
  f319 := Tryd.func66.trans (congrArg some (by kernel_rfl))
  f320 := Tryd.func67.trans (congrArg some (by kernel_rfl))
  f337 := Tryd.func71.trans (congrArg some (by kernel_rfl))
  f338 := Tryd.func72.trans (congrArg some (by kernel_rfl))
  t0 := Tryd.underlying0
  a0 := Tryd.isAgg0
  z0 := Tryd.sizeOf0
  v0 := Tryd.zeroValue0
  t2 := Tryd.underlying2
  a2 := Tryd.isAgg2
  z2 := Tryd.sizeOf2
  v2 := Tryd.zeroValue2
  t3 := Tryd.underlying3
  a3 := Tryd.isAgg3
  z3 := Tryd.sizeOf3
  v3 := Tryd.zeroValue3
  t4 := Tryd.underlying4
  a4 := Tryd.isAgg4
  z4 := Tryd.sizeOf4
  v4 := Tryd.zeroValue4
  t5 := Tryd.underlying5
  a5 := Tryd.isAgg5
  z5 := Tryd.sizeOf5
  v5 := Tryd.zeroValue5
  t9 := Tryd.underlying9
  a9 := Tryd.isAgg9
  z9 := Tryd.sizeOf9
  v9 := Tryd.zeroValue9
  t20 := Tryd.underlying20
  a20 := Tryd.isAgg20
  z20 := Tryd.sizeOf20
  v20 := Tryd.zeroValue20
  t37 := Tryd.underlying47
  a37 := Tryd.isAgg47
  z37 := Tryd.sizeOf47
  v37 := Tryd.zeroValue47
  t46 := Tryd.underlying67
  a46 := Tryd.isAgg67
  z46 := Tryd.sizeOf67
  v46 := Tryd.zeroValue67
  t51 := Tryd.underlying86
  a51 := Tryd.isAgg86
  z51 := Tryd.sizeOf86
  v51 := Tryd.zeroValue86
  t53 := Tryd.underlying64
  a53 := Tryd.isAgg64
  z53 := Tryd.sizeOf64
  v53 := Tryd.zeroValue64
  t171 := Tryd.underlying73
  a171 := Tryd.isAgg73
  z171 := Tryd.sizeOf73
  v171 := Tryd.zeroValue73
  t173 := Tryd.underlying76
  a173 := Tryd.isAgg76
  z173 := Tryd.sizeOf76
  v173 := Tryd.zeroValue76
  t212 := Tryd.underlying85
  a212 := Tryd.isAgg85
  z212 := Tryd.sizeOf85
  v212 := Tryd.zeroValue85
  t213 := Tryd.underlying87
  a213 := Tryd.isAgg87
  z213 := Tryd.sizeOf87
  t232 := Tryd.underlying101
  a232 := Tryd.isAgg101
  z232 := Tryd.sizeOf101
  v232 := Tryd.zeroValue101
  t233 := Tryd.underlying102
  a233 := Tryd.isAgg102
  z233 := Tryd.sizeOf102
  v233 := Tryd.zeroValue102
  g17 := by kernel_rfl
  g18 := by kernel_rfl
  g19 := by kernel_rfl
  i0 := by kernel_rfl
  i2 := by kernel_rfl
  i3 := by kernel_rfl
  i4 := by kernel_rfl
  i5 := by kernel_rfl
  i9 := by kernel_rfl
  i20 := by kernel_rfl
  i37 := by kernel_rfl
  i46 := by kernel_rfl
  i51 := by kernel_rfl
  i53 := by kernel_rfl
  i171 := by kernel_rfl
  i173 := by kernel_rfl
  i212 := by kernel_rfl
  i232 := by kernel_rfl
  i233 := by kernel_rfl
  m17 := by kernel_rfl
  m18 := by kernel_rfl
  m19 := by kernel_rfl }
theorem formatInt (n : Int) (h0 : -9223372036854775808 ≤ n) (h1 : n ≤ 9223372036854775807) (w : World) (htab : Lib.TabIs Tryd.prog w "internal/strconv.uint64pow10" .u64 Lib.pow10Tab) :
    Calls Tryd.prog 31 #[.int .i64 n, .int .i64 10] w fun e w' => e = .returned (.string ⟨(Lib.itoa n).toArray⟩) ∧ ∃ k os, w' = Go.Sort.grow (w.drewN k) os := Any.strconv_FormatInt_10 laysM173 n h0 h1 w htab
end Go.Proofs.YteccfcojjcnokaaDoor
end

section
/- The texts of orders: what the program and the reference compute. -/
namespace Go.Proofs.YteccfcojjcnokaaDoor
open Go Go.Proofs Go.RowKit
def Tab (w : World) : Prop := Lib.TabIs Tryd.prog w "internal/strconv.uint64pow10" .u64 Lib.pow10Tab
theorem Tab.below {w w' : World} (h : Tab w) (b : Below w.heap.size w w') : Tab w' := by
  have hg := laysM173.m17
  unfold Tab Lib.TabIs World.var? at h ⊢
  rw [hg] at h ⊢
  simp only [Option.bind_some] at h ⊢
  have hlt : laysM173_ren.g 17 < w.heap.size := by
    rcases Nat.lt_or_ge (laysM173_ren.g 17) w.heap.size with h' | h'
    · exact h'
    · rw [Array.getElem?_eq_none h'] at h; cases h
  rw [b.block _ hlt]
  exact h
set_option maxRecDepth 100000 in
theorem text_walk (n : Int) (h0 : -9223372036854775808 ≤ n) (h1 : n ≤ 9223372036854775807) (w : World) (ht : Tab w) :
    Calls Tryd.prog 27 #[.int .i64 n] w fun e w' => e = .returned (.string ⟨(Lib.itoa n).toArray⟩) ∧ Below w.heap.size w w' := by
  go_enter Tryd.func27, Tryd.ntmps27
  go_wp2_with (go_at_call 31; refine (formatInt n h0 h1 _ ht).mono ?_; rintro e w' ⟨rfl, k, os, rfl⟩)
  go_ret
  exact ⟨rfl, Lib.below_grow _ _ (Nat.le_refl _) _ _⟩
def verbL (k : Int) : List UInt8 :=
  if k = 1 then [110, 111, 100, 101] else if k = 2 then [99, 97, 110, 99, 101, 108] else if k = 3 then [97, 102, 116, 101, 114] else if k = 4 then [111, 102, 102] else if k = 5 then [116, 105, 109, 101, 114]
  else if k = 6 then [115, 116, 111, 112] else if k = 7 then [114, 101, 115, 101, 116] else if k = 8 then [116, 97, 115, 107] else if k = 9 then [103, 114, 111, 117, 112] else if k = 10 then [108, 105, 109, 105, 116]
  else if k = 11 then [97, 115, 107] else if k = 12 then [116, 105, 99, 107] else if k = 13 then [112, 105, 99, 107] else [115, 101, 116, 116, 108, 101]
def arityN (k : Int) : Nat := if k = 1 then 4 else if k = 6 ∨ k = 8 ∨ k = 11 ∨ k = 12 ∨ k = 13 then 1 else if k = 14 then 0 else 2
def showL (k a b c d : Int) : List UInt8 := verbL k ++ (([a, b, c, d] : List Int).take (arityN k)).flatMap fun x => 32 :: Lib.itoa x
set_option maxRecDepth 100000 in
set_option maxHeartbeats 4000000 in
theorem verb_walk (k : Int) (h1 : 1 ≤ k) (h2 : k ≤ 14) (w : World) : Calls Tryd.prog 12 #[.int .i64 k] w fun e w' => e = .returned (.string ⟨(verbL k).toArray⟩) ∧ Below w.heap.size w w' := by
  rcases (by omega : k = 1 ∨ k = 2 ∨ k = 3 ∨ k = 4 ∨ k = 5 ∨ k = 6 ∨ k = 7 ∨ k = 8 ∨ k = 9 ∨ k = 10 ∨ k = 11 ∨ k = 12 ∨ k = 13 ∨ k = 14) with rfl | rfl | rfl | rfl | rfl | rfl | rfl | rfl | rfl | rfl | rfl | rfl | rfl | rfl
  all_goals
    go_enter Tryd.func12, Tryd.ntmps12
    go_wp2
    go_ret
    exact ⟨rfl, (Below.refl _ _).alloc (Nat.le_refl _) _⟩
theorem wp_cut {P : Program} {c : Code} {Q : Exit → Act → World → Prop} {a : Act} {w : World} (M : Act → World → Prop) (h1 : c.wp P (Exit.then M fun _ _ _ => False) a w) (h2 : ∀ a w, M a w → Q .normal a w) : c.wp P Q a w :=
  wp_mono h1 fun e a w h => by
    cases e with
    | normal => exact h2 a w h
    | _ => exact absurd h id
theorem text_len {n : Int} (h : -1000 ≤ n ∧ n ≤ 1000000) : (Lib.itoa n).length ≤ 21 := Lib.itoa_length_le n (by omega) (by omega)
def words : Array Value := #[.string ⟨#[]⟩, .string ⟨#[110, 111, 100, 101]⟩, .string ⟨#[99, 97, 110, 99, 101, 108]⟩, .string ⟨#[97, 102, 116, 101, 114]⟩, .string ⟨#[111, 102, 102]⟩, .string ⟨#[116, 105, 109, 101, 114]⟩, .string ⟨#[115, 116, 111, 112]⟩,
  .string ⟨#[114, 101, 115, 101, 116]⟩, .string ⟨#[116, 97, 115, 107]⟩, .string ⟨#[103, 114, 111, 117, 112]⟩, .string ⟨#[108, 105, 109, 105, 116]⟩, .string ⟨#[97, 115, 107]⟩, .string ⟨#[116, 105, 99, 107]⟩, .string ⟨#[112, 105, 99, 107]⟩, .string ⟨#[115, 101, 116, 116, 108, 101]⟩]
theorem words_at {k : Int} (h1 : 1 ≤ k) (h2 : k ≤ 14) : words[k.toNat]? = some (.string ⟨(verbL k).toArray⟩) := by
  rcases (by omega : k = 1 ∨ k = 2 ∨ k = 3 ∨ k = 4 ∨ k = 5 ∨ k = 6 ∨ k = 7 ∨ k = 8 ∨ k = 9 ∨ k = 10 ∨ k = 11 ∨ k = 12 ∨ k = 13 ∨ k = 14) with rfl | rfl | rfl | rfl | rfl | rfl | rfl | rfl | rfl | rfl | rfl | rfl | rfl | rfl <;> rfl
set_option maxRecDepth 100000 in
theorem words_walk (w : World) : Calls Tryd.prog 21 #[] w fun e w' => e = .returned (.slice (some ⟨w.heap.size, 0, none⟩) 15 15) ∧ w' = w.alloc (.cells words 9) := by
  go_enter Tryd.func21, Tryd.ntmps21
  go_wp2
  go_ret
  exact ⟨rfl, rfl⟩
set_option maxRecDepth 100000 in
theorem arity_walk (k : Int) (w : World) : Calls Tryd.prog 26 #[.int .i64 k] w fun e w' => e = .returned (.int .i64 (arityN k)) ∧ w' = w := by
  go_enter Tryd.func26, Tryd.ntmps26
  go_wp2
  all_goals (go_ret; refine ⟨?_, rfl⟩; simp_all [arityN])
set_option maxRecDepth 100000 in
theorem args_walk (k a b c d : Int) (w : World) : Calls Tryd.prog 25 #[.agg #[.int .i64 k, .int .i64 a, .int .i64 b, .int .i64 c, .int .i64 d]] w fun e w' => e = .returned (.slice (some ⟨w.heap.size + 1, 0, none⟩) 4 4) ∧
    w' = (w.alloc (.cells #[.int .i64 k, .int .i64 a, .int .i64 b, .int .i64 c, .int .i64 d] 25)).alloc (.cells #[.int .i64 a, .int .i64 b, .int .i64 c, .int .i64 d] 2) := by
  go_enter Tryd.func25, Tryd.ntmps25
  go_wp2
  go_ret
  exact ⟨rfl, rfl⟩
end Go.Proofs.YteccfcojjcnokaaDoor
end

section
/- The texts of orders: what the program computes. -/
namespace Go.Proofs.YteccfcojjcnokaaDoor
open Go Go.Proofs Go.RowKit
theorem verb_len {k : Int} (h1 : 1 ≤ k) (h2 : k ≤ 14) : (verbL k).length ≤ 10 := by
  rcases (by omega : k = 1 ∨ k = 2 ∨ k = 3 ∨ k = 4 ∨ k = 5 ∨ k = 6 ∨ k = 7 ∨ k = 8 ∨ k = 9 ∨ k = 10 ∨ k = 11 ∨ k = 12 ∨ k = 13 ∨ k = 14) with rfl | rfl | rfl | rfl | rfl | rfl | rfl | rfl | rfl | rfl | rfl | rfl | rfl | rfl <;> decide
def gt4 (a b c d : Int) (i : Nat) : Int := match i with | 0 => a | 1 => b | 2 => c | _ => d
set_option maxRecDepth 100000 in
set_option maxHeartbeats 4000000 in
theorem orderText_walk (k a b c d : Int) (h1 : 1 ≤ k) (h2 : k ≤ 14) (ha : -1000 ≤ a ∧ a ≤ 1000000) (hb : -1000 ≤ b ∧ b ≤ 1000000) (hc : -1000 ≤ c ∧ c ≤ 1000000) (hd : -1000 ≤ d ∧ d ≤ 1000000) (w : World) (ht : Tab w) :
    Calls Tryd.prog 16 #[.agg #[.int .i64 k, .int .i64 a, .int .i64 b, .int .i64 c, .int .i64 d]] w fun e w' => e = .returned (.string ⟨(showL k a b c d).toArray⟩) ∧ Below w.heap.size w w' := by
  go_enter Tryd.func16, Tryd.ntmps16
  go_wp2_with (fail)
  have hwd := words_at h1 h2
  refine wp_cut (M := fun a' w' => ∃ u6 u7 u8 u9 u10, a' = ⟨#[.agg #[.int .i64 k, .int .i64 a, .int .i64 b, .int .i64 c, .int .i64 d], .pointer (some ⟨w.heap.size, 0, none⟩), .string ⟨#[]⟩, .string ⟨(verbL k).toArray⟩, undef, undef, u6, u7, u8, u9, u10,
      undef, undef, undef, undef, undef, undef, undef, undef, undef, undef, undef, undef, undef, undef, undef, undef, undef, undef], []⟩ ∧ Below (w.heap.size + 1) (w.alloc (Obj.cells #[.int .i64 k, .int .i64 a, .int .i64 b, .int .i64 c, .int .i64 d] 25)) w') ?_ ?_
  · go_region_with (go_at_call 21; refine (words_walk _).mono ?_; rintro e w' ⟨rfl, rfl⟩)
    all_goals exact ⟨_, _, _, _, _, rfl, by repeat' first | exact Below.refl _ _ | apply Below.drew | refine Below.alloc ?_ (by simp) _⟩
  · rintro a' w1 ⟨u6, u7, u8, u9, u10, rfl, bel1⟩
    have hbox : ∀ i : Nat, i < 5 → w1.cell? ⟨w.heap.size, i, none⟩ = (#[.int .i64 k, .int .i64 a, .int .i64 b, .int .i64 c, .int .i64 d] : Array Value)[i]? := fun i hi => by
      rw [bel1.cell (by simp)]; simp
    have x0 : w1.cell? ⟨w.heap.size, 0, none⟩ = some (.int .i64 k) := hbox 0 (by omega)
    have x1 : w1.cell? ⟨w.heap.size, 1, none⟩ = some (.int .i64 a) := hbox 1 (by omega)
    have x2 : w1.cell? ⟨w.heap.size, 2, none⟩ = some (.int .i64 b) := hbox 2 (by omega)
    have x3 : w1.cell? ⟨w.heap.size, 3, none⟩ = some (.int .i64 c) := hbox 3 (by omega)
    have x4 : w1.cell? ⟨w.heap.size, 4, none⟩ = some (.int .i64 d) := hbox 4 (by omega)
    have s1 := bel1.size
    simp at s1
    have s2 : w.heap.size < w1.heap.size := by omega
    have s3 : w.heap.size < w1.heap.size + 1 := by omega
    have hk4 : arityN k ≤ 4 := by unfold arityN; split; omega; split; omega; split <;> omega
    have hk5 : (arityN k : Int) ≤ 4 := by omega
    have hk6 : (0 : Int) ≤ (arityN k : Int) := by omega
    have hk7 : ¬ (arityN k : Int) < 0 := by omega
    have hk8 : ¬ (4 : Int) < (arityN k : Int) := by omega
    go_wp2_with (fail)
    refine wp_cut (M := fun a' w' => ∃ u6 u7 u8 u9 u10 u11 u12 u13 u14 u15 blk, a' = ⟨#[.agg #[.int .i64 k, .int .i64 a, .int .i64 b, .int .i64 c, .int .i64 d], .pointer (some ⟨w.heap.size, 0, none⟩), .string ⟨#[]⟩, .string ⟨(verbL k).toArray⟩, undef, undef, u6, u7, u8, u9, u10,
      u11, u12, u13, u14, u15, .slice (some ⟨blk, 0, none⟩) (arityN k) 4, .int .i64 (arityN k), .int .i64 0, undef, undef, undef, undef, undef, undef, undef, undef, undef, undef], []⟩ ∧ Below (w.heap.size + 1) w1 w' ∧ w'.cell? ⟨blk, 0, none⟩ = some (.int .i64 a) ∧ w'.cell? ⟨blk, 1, none⟩ = some (.int .i64 b) ∧ w'.cell? ⟨blk, 2, none⟩ = some (.int .i64 c) ∧ w'.cell? ⟨blk, 3, none⟩ = some (.int .i64 d)) ?_ ?_
    · go_region_with (first | (go_at_call 25; refine (args_walk k a b c d _).mono ?_; rintro e w' ⟨rfl, rfl⟩) | (go_at_call 26; refine (arity_walk k _).mono ?_; rintro e w' ⟨rfl, rfl⟩))
      all_goals exact ⟨_, _, _, _, _, _, _, _, _, _, _, rfl, (by repeat' first | exact Below.refl _ _ | apply Below.drew | refine Below.alloc ?_ (by first | omega | (simp; omega) | simp) _), by simp, by simp, by simp, by simp⟩
    · rintro a' w2 ⟨u6, u7, u8, u9, u10, u11, u12, u13, u14, u15, blk, rfl, bel2, y0, y1, y2, y3⟩
      have bel3 : Below (w.heap.size + 1) (w.alloc (Obj.cells #[.int .i64 k, .int .i64 a, .int .i64 b, .int .i64 c, .int .i64 d] 25)) w2 := bel1.trans bel2
      have bel4 : Below w.heap.size w w2 := ((Below.refl _ _).alloc (Nat.le_refl _) _).trans (bel3.mono (by omega))
      have hcl : ∀ i : Nat, i < 4 → w2.cell? ⟨blk, i, none⟩ = some (.int .i64 (gt4 a b c d i)) := fun i hi => by
        rcases (by omega : i = 0 ∨ i = 1 ∨ i = 2 ∨ i = 3) with rfl | rfl | rfl | rfl
        · exact y0
        · exact y1
        · exact y2
        · exact y3
      have hblk : blk < w2.heap.size := World.block_lt_of_cell? w2 ⟨blk, 0, none⟩ y0
      go_wp2
      go_loopw [3, 18] (fun x i wr => ∃ j : Nat, j ≤ arityN k ∧ x = .string ⟨(verbL k ++ (([a, b, c, d] : List Int).take j).flatMap fun x => 32 :: Lib.itoa x).toArray⟩ ∧ i = .int .i64 j ∧ Below w2.heap.size w2 wr)
        (fun _ i _ => arityN k - (intOf i).toNat)
      case atStart => exact ⟨0, Nat.zero_le _, by simp, rfl, Below.refl _ _⟩
      case round =>
        obtain ⟨j, hj, rfl, rfl, hnx⟩ := hrel
        have hcell : j < 4 → wr.cell? ⟨blk, j, none⟩ = some (.int .i64 (gt4 a b c d j)) := fun h => (hnx.cell (by exact hblk)).trans (hcl j h)
        have hLl : (verbL k ++ (([a, b, c, d] : List Int).take j).flatMap fun x => 32 :: Lib.itoa x).length ≤ 200 := by
          have la := text_len ha
          have lb := text_len hb
          have lc := text_len hc
          have ld := text_len hd
          have hv := verb_len h1 h2
          rcases (by omega : j = 0 ∨ j = 1 ∨ j = 2 ∨ j = 3 ∨ j = 4) with rfl | rfl | rfl | rfl | rfl <;> simp <;> omega
        have hnext : j < 4 → (verbL k ++ (([a, b, c, d] : List Int).take (j + 1)).flatMap fun x => 32 :: Lib.itoa x) = (verbL k ++ (([a, b, c, d] : List Int).take j).flatMap fun x => 32 :: Lib.itoa x) ++ (32 :: Lib.itoa (gt4 a b c d j)) := fun h => by
          rcases (by omega : j = 0 ∨ j = 1 ∨ j = 2 ∨ j = 3) with rfl | rfl | rfl | rfl <;> simp [gt4]
        have hrng : -1000 ≤ gt4 a b c d j ∧ gt4 a b c d j ≤ 1000000 := by unfold gt4; split <;> assumption
        have hend : j = arityN k → showL k a b c d = verbL k ++ (([a, b, c, d] : List Int).take j).flatMap fun x => 32 :: Lib.itoa x := fun h => by rw [h]; rfl
        generalize verbL k ++ (([a, b, c, d] : List Int).take j).flatMap (fun x => 32 :: Lib.itoa x) = L at *
        rcases Nat.lt_or_ge j (arityN k) with hj2 | hj2
        · have hc2 := hcell (by omega)
          have hn2 := hnext (by omega)
          have hl2 := text_len hrng
          generalize gt4 a b c d j = z at *
          have hj3 : (j : Int) < (arityN k : Int) := by omega
          go_wp2_with (go_at_call 27; refine (text_walk z (by omega) (by omega) _ (ht.below (bel4.trans (hnx.mono bel4.size)))).mono ?_; rintro e w' ⟨rfl, bel5⟩)
          exact ⟨⟨j + 1, by omega, by rw [bcat, bcatL, hn2], by simp, hnx.trans (bel5.mono hnx.size)⟩, by simp [intOf]; omega⟩
        · have : j = arityN k := by omega
          go_wp2
          go_ret
          exact ⟨by rw [hend this]; rfl, bel4.trans (hnx.mono bel4.size)⟩
end Go.Proofs.YteccfcojjcnokaaDoor
end

section
/- The seat's types, for the abstract machine. -/
namespace Go.AE.Tryd
open Go.Proofs
def tyL : List (TypeId × TyD) := [
  (1, { size := 1, bytes := 8, agg := false, zero := [.dead] }),
  (2, { size := 1, bytes := 8, agg := false, zero := [.int .i64 0], ik := some .i64 }),
  (3, { size := 1, bytes := 8, agg := false, zero := [.int .i64 0], ik := some .i64 }),
  (4, { size := 1, bytes := 1, agg := false, zero := [.bool false] }),
  (5, { size := 1, bytes := 1, agg := false, zero := [.int .u8 0], ik := some .u8 }),
  (7, { size := 4, bytes := 24, agg := true, zero := [.int .i64 0, .int .i64 0, .bool false, .int .u8 0], fields := [(0, 1, 2), (1, 1, 3), (2, 1, 4), (3, 1, 6)] }),
  (9, { size := 1, bytes := 16, agg := false, zero := [.str ⟨#[]⟩], isStr := true }),
  (12, { size := 1, bytes := 8, agg := false, zero := [.int .u64 0], ik := some .u64 }),
  (13, { size := 2, bytes := 24, agg := true, zero := [.str ⟨#[]⟩, .int .u64 0], fields := [(0, 1, 9), (1, 1, 12)] }),
  (15, { size := 1, bytes := 8, agg := false, zero := [.dead] }),
  (16, { size := 1, bytes := 8, agg := false, zero := [.dead] }),
  (17, { size := 1, bytes := 8, agg := false, zero := [.dead] }),
  (18, { size := 1, bytes := 8, agg := true, zero := [.dead], fields := [(0, 1, 17)] }),
  (21, { size := 1, bytes := 4, agg := false, zero := [.int .i32 0], ik := some .i32 }),
  (22, { size := 5, bytes := 40, agg := true, zero := [.int .i64 0, .int .i64 0, .int .i64 0, .int .i64 0, .int .i64 0], fields := [(0, 1, 2), (1, 1, 2), (2, 1, 2), (3, 1, 2), (4, 1, 2)] }),
  (23, { size := 5, bytes := 40, agg := true, zero := [.int .i64 0, .int .i64 0, .int .i64 0, .int .i64 0, .int .i64 0], fields := [(0, 1, 2), (1, 1, 2), (2, 1, 2), (3, 1, 2), (4, 1, 2)] }),
  (24, { size := 1, bytes := 8, agg := false, zero := [.dead] }),
  (25, { size := 5, bytes := 40, agg := true, zero := [.int .i64 0, .int .i64 0, .int .i64 0, .int .i64 0, .int .i64 0], fields := [(0, 1, 2), (1, 1, 2), (2, 1, 2), (3, 1, 2), (4, 1, 2)] }),
  (26, { size := 1, bytes := 8, agg := false, zero := [.dead] }),
  (27, { size := 1, bytes := 8, agg := false, zero := [.dead] }),
  (29, { size := 1, bytes := 8, agg := false, zero := [.dead] }),
  (30, { size := 1, bytes := 8, agg := false, zero := [.dead] }),
  (31, { size := 1, bytes := 8, agg := false, zero := [.dead] }),
  (32, { size := 1, bytes := 8, agg := false, zero := [.dead] }),
  (33, { size := 1, bytes := 24, agg := false, zero := [.nil], elem := some 2 }),
  (34, { size := 1, bytes := 8, agg := false, zero := [.dead] }),
  (35, { size := 1, bytes := 8, agg := false, zero := [.dead] }),
  (36, { size := 1, bytes := 24, agg := false, zero := [.nil], elem := some 9 }),
  (37, { size := 1, bytes := 8, agg := false, zero := [.dead] }),
  (39, { size := 1, bytes := 8, agg := false, zero := [.dead] }),
  (40, { size := 1, bytes := 8, agg := false, zero := [.dead] }),
  (41, { size := 1, bytes := 8, agg := false, zero := [.dead] }),
  (42, { size := 1, bytes := 8, agg := false, zero := [.dead] }),
  (43, { size := 1, bytes := 8, agg := false, zero := [.dead] }),
  (44, { size := 1, bytes := 24, agg := false, zero := [.nil], elem := some 43 }),
  (45, { size := 1, bytes := 8, agg := false, zero := [.dead] }),
  (46, { size := 1, bytes := 24, agg := false, zero := [.nil], elem := some 3 }),
  (47, { size := 1, bytes := 24, agg := false, zero := [.nil], elem := some 5 }),
  (48, { size := 1, bytes := 8, agg := false, zero := [.dead] }),
  (49, { size := 1, bytes := 8, agg := false, zero := [.dead] }),
  (51, { size := 1, bytes := 16, agg := false, zero := [.dead] }),
  (53, { size := 1, bytes := 8, agg := false, zero := [.dead] }),
  (54, { size := 1, bytes := 8, agg := false, zero := [.dead] }),
  (55, { size := 1, bytes := 8, agg := false, zero := [.dead] }),
  (56, { size := 1, bytes := 8, agg := false, zero := [.dead] }),
  (57, { size := 1, bytes := 8, agg := false, zero := [.dead] }),
  (58, { size := 1, bytes := 8, agg := false, zero := [.dead] }),
  (59, { size := 1, bytes := 8, agg := false, zero := [.dead] }),
  (61, { size := 1, bytes := 8, agg := false, zero := [.dead] }),
  (62, { size := 1, bytes := 8, agg := false, zero := [.dead] }),
  (64, { size := 1, bytes := 8, agg := false, zero := [.int .u64 0], ik := some .u64 }),
  (66, { size := 1, bytes := 8, agg := false, zero := [.dead] }),
  (67, { size := 1, bytes := 8, agg := false, zero := [.int .u64 0], ik := some .u64 }),
  (68, { size := 1, bytes := 8, agg := false, zero := [.dead] }),
  (69, { size := 1, bytes := 8, agg := false, zero := [.dead] }),
  (70, { size := 1, bytes := 8, agg := false, zero := [.dead] }),
  (71, { size := 1, bytes := 8, agg := false, zero := [.dead] }),
  (72, { size := 1, bytes := 8, agg := false, zero := [.dead] }),
  (74, { size := 1, bytes := 8, agg := false, zero := [.dead] }),
  (75, { size := 1, bytes := 8, agg := false, zero := [.dead] }),
  (77, { size := 1, bytes := 8, agg := false, zero := [.dead] }),
  (78, { size := 1, bytes := 8, agg := false, zero := [.dead] }),
  (79, { size := 1, bytes := 8, agg := false, zero := [.dead] }),
  (80, { size := 1, bytes := 8, agg := false, zero := [.dead] }),
  (81, { size := 3, bytes := 48, agg := true, zero := [.str ⟨#[]⟩, .str ⟨#[]⟩, .dead], fields := [(0, 1, 9), (1, 1, 9), (2, 1, 51)] }),
  (82, { size := 3, bytes := 48, agg := true, zero := [.str ⟨#[]⟩, .str ⟨#[]⟩, .dead], fields := [(0, 1, 9), (1, 1, 9), (2, 1, 51)] }),
  (83, { size := 1, bytes := 8, agg := false, zero := [.dead] }),
  (84, { size := 1, bytes := 8, agg := false, zero := [.dead] }),
  (86, { size := 1, bytes := 4, agg := false, zero := [.int .u32 0], ik := some .u32 }),
  (88, { size := 1, bytes := 8, agg := false, zero := [.dead] }),
  (89, { size := 1, bytes := 8, agg := false, zero := [.dead] }),
  (91, { size := 2, bytes := 2, agg := true, zero := [.int .u8 0, .int .u8 0], fields := [(0, 1, 5), (1, 1, 5)] }),
  (92, { size := 2, bytes := 2, agg := true, zero := [.int .u8 0, .int .u8 0], fields := [(0, 1, 5), (1, 1, 5)] }),
  (95, { size := 1, bytes := 8, agg := false, zero := [.dead] }),
  (96, { size := 1, bytes := 8, agg := false, zero := [.dead] }),
  (97, { size := 1, bytes := 8, agg := false, zero := [.dead] }),
  (98, { size := 1, bytes := 16, agg := true, zero := [.str ⟨#[]⟩], fields := [(0, 1, 9)] }),
  (99, { size := 1, bytes := 16, agg := true, zero := [.str ⟨#[]⟩], fields := [(0, 1, 9)] }),
  (100, { size := 1, bytes := 8, agg := false, zero := [.dead] }),
  (103, { size := 1, bytes := 8, agg := false, zero := [.dead] }),
  (104, { size := 4, bytes := 40, agg := true, zero := [.dead, .dead, .dead, .str ⟨#[]⟩], fields := [(0, 1, 17), (1, 1, 17), (2, 1, 17), (3, 1, 9)] }),
  (107, { size := 0, bytes := 0, agg := true, zero := [], fields := [(0, 0, 106)] }),
  (109, { size := 1, bytes := 8, agg := false, zero := [.dead] }),
  (112, { size := 1, bytes := 8, agg := false, zero := [.dead] }),
  (115, { size := 11, bytes := 48, agg := true, zero := [.int .u64 0, .int .u64 0, .int .u32 0, .int .u8 0, .int .u8 0, .int .u8 0, .int .u8 0, .dead, .dead, .int .i32 0, .int .i32 0], fields := [(0, 1, 12), (1, 1, 12), (2, 1, 86), (3, 1, 110), (4, 1, 5), (5, 1, 5), (6, 1, 111), (7, 1, 112), (8, 1, 96), (9, 1, 113), (10, 1, 114)] }),
  (117, { size := 1, bytes := 8, agg := false, zero := [.dead] })]
def tyT (t : TypeId) : Option TyD := (tyL.find? fun p => p.1 == t).map (·.2)
def lvs : TypeId → Option (List Lf)
  | _ => none
def eqL (ls : Option (List Lf)) (xs ys : List AV) : Option Bool := match ls with | some ls => if xs.map lfOf = ls.map some ∧ ys.map lfOf = ls.map some then some (cellsEq xs ys) else none | none => none
def eqT : TypeId → AV → AV → Option Bool
  | 4, .bool a, .bool b => some (a == b)
  | t, .agg xs, .agg ys => eqL (lvs t) xs ys
  | _, _, _ => none
noncomputable def ctx : Ctx := { P := Go.Proofs.Tryd.prog, ty := tyT, eqA := eqT }
theorem tys : ∀ t d, tyT t = some d → tyOk Go.Proofs.Tryd.prog t d = true := by
  have hall : (tyL.all fun p => tyOk Go.Proofs.Tryd.prog p.1 p.2) = true := by kernel_rfl
  intro t d h
  unfold tyT at h
  rw [Option.map_eq_some_iff] at h
  obtain ⟨p, h1, rfl⟩ := h
  have h2 := List.find?_some h1
  simp only [beq_iff_eq] at h2
  subst h2
  exact List.all_eq_true.1 hall p (List.mem_of_find?_eq_some h1)
@[simp] theorem ty1 : ctx.ty 1 = some { size := 1, bytes := 8, agg := false, zero := [.dead] } := by kernel_rfl
@[simp] theorem ty2 : ctx.ty 2 = some { size := 1, bytes := 8, agg := false, zero := [.int .i64 0], ik := some .i64 } := by kernel_rfl
@[simp] theorem ty3 : ctx.ty 3 = some { size := 1, bytes := 8, agg := false, zero := [.int .i64 0], ik := some .i64 } := by kernel_rfl
@[simp] theorem ty4 : ctx.ty 4 = some { size := 1, bytes := 1, agg := false, zero := [.bool false] } := by kernel_rfl
@[simp] theorem ty5 : ctx.ty 5 = some { size := 1, bytes := 1, agg := false, zero := [.int .u8 0], ik := some .u8 } := by kernel_rfl
@[simp] theorem ty7 : ctx.ty 7 = some { size := 4, bytes := 24, agg := true, zero := [.int .i64 0, .int .i64 0, .bool false, .int .u8 0], fields := [(0, 1, 2), (1, 1, 3), (2, 1, 4), (3, 1, 6)] } := by kernel_rfl
@[simp] theorem ty9 : ctx.ty 9 = some { size := 1, bytes := 16, agg := false, zero := [.str ⟨#[]⟩], isStr := true } := by kernel_rfl
@[simp] theorem ty12 : ctx.ty 12 = some { size := 1, bytes := 8, agg := false, zero := [.int .u64 0], ik := some .u64 } := by kernel_rfl
@[simp] theorem ty13 : ctx.ty 13 = some { size := 2, bytes := 24, agg := true, zero := [.str ⟨#[]⟩, .int .u64 0], fields := [(0, 1, 9), (1, 1, 12)] } := by kernel_rfl
@[simp] theorem ty15 : ctx.ty 15 = some { size := 1, bytes := 8, agg := false, zero := [.dead] } := by kernel_rfl
@[simp] theorem ty16 : ctx.ty 16 = some { size := 1, bytes := 8, agg := false, zero := [.dead] } := by kernel_rfl
@[simp] theorem ty17 : ctx.ty 17 = some { size := 1, bytes := 8, agg := false, zero := [.dead] } := by kernel_rfl
@[simp] theorem ty18 : ctx.ty 18 = some { size := 1, bytes := 8, agg := true, zero := [.dead], fields := [(0, 1, 17)] } := by kernel_rfl
@[simp] theorem ty21 : ctx.ty 21 = some { size := 1, bytes := 4, agg := false, zero := [.int .i32 0], ik := some .i32 } := by kernel_rfl
@[simp] theorem ty22 : ctx.ty 22 = some { size := 5, bytes := 40, agg := true, zero := [.int .i64 0, .int .i64 0, .int .i64 0, .int .i64 0, .int .i64 0], fields := [(0, 1, 2), (1, 1, 2), (2, 1, 2), (3, 1, 2), (4, 1, 2)] } := by kernel_rfl
@[simp] theorem ty23 : ctx.ty 23 = some { size := 5, bytes := 40, agg := true, zero := [.int .i64 0, .int .i64 0, .int .i64 0, .int .i64 0, .int .i64 0], fields := [(0, 1, 2), (1, 1, 2), (2, 1, 2), (3, 1, 2), (4, 1, 2)] } := by kernel_rfl
@[simp] theorem ty24 : ctx.ty 24 = some { size := 1, bytes := 8, agg := false, zero := [.dead] } := by kernel_rfl
@[simp] theorem ty25 : ctx.ty 25 = some { size := 5, bytes := 40, agg := true, zero := [.int .i64 0, .int .i64 0, .int .i64 0, .int .i64 0, .int .i64 0], fields := [(0, 1, 2), (1, 1, 2), (2, 1, 2), (3, 1, 2), (4, 1, 2)] } := by kernel_rfl
@[simp] theorem ty26 : ctx.ty 26 = some { size := 1, bytes := 8, agg := false, zero := [.dead] } := by kernel_rfl
@[simp] theorem ty27 : ctx.ty 27 = some { size := 1, bytes := 8, agg := false, zero := [.dead] } := by kernel_rfl
@[simp] theorem ty29 : ctx.ty 29 = some { size := 1, bytes := 8, agg := false, zero := [.dead] } := by kernel_rfl
@[simp] theorem ty30 : ctx.ty 30 = some { size := 1, bytes := 8, agg := false, zero := [.dead] } := by kernel_rfl
@[simp] theorem ty31 : ctx.ty 31 = some { size := 1, bytes := 8, agg := false, zero := [.dead] } := by kernel_rfl
@[simp] theorem ty32 : ctx.ty 32 = some { size := 1, bytes := 8, agg := false, zero := [.dead] } := by kernel_rfl
@[simp] theorem ty33 : ctx.ty 33 = some { size := 1, bytes := 24, agg := false, zero := [.nil], elem := some 2 } := by kernel_rfl
@[simp] theorem ty34 : ctx.ty 34 = some { size := 1, bytes := 8, agg := false, zero := [.dead] } := by kernel_rfl
@[simp] theorem ty35 : ctx.ty 35 = some { size := 1, bytes := 8, agg := false, zero := [.dead] } := by kernel_rfl
@[simp] theorem ty36 : ctx.ty 36 = some { size := 1, bytes := 24, agg := false, zero := [.nil], elem := some 9 } := by kernel_rfl
@[simp] theorem ty37 : ctx.ty 37 = some { size := 1, bytes := 8, agg := false, zero := [.dead] } := by kernel_rfl
@[simp] theorem ty39 : ctx.ty 39 = some { size := 1, bytes := 8, agg := false, zero := [.dead] } := by kernel_rfl
@[simp] theorem ty40 : ctx.ty 40 = some { size := 1, bytes := 8, agg := false, zero := [.dead] } := by kernel_rfl
@[simp] theorem ty41 : ctx.ty 41 = some { size := 1, bytes := 8, agg := false, zero := [.dead] } := by kernel_rfl
@[simp] theorem ty42 : ctx.ty 42 = some { size := 1, bytes := 8, agg := false, zero := [.dead] } := by kernel_rfl
@[simp] theorem ty43 : ctx.ty 43 = some { size := 1, bytes := 8, agg := false, zero := [.dead] } := by kernel_rfl
@[simp] theorem ty44 : ctx.ty 44 = some { size := 1, bytes := 24, agg := false, zero := [.nil], elem := some 43 } := by kernel_rfl
@[simp] theorem ty45 : ctx.ty 45 = some { size := 1, bytes := 8, agg := false, zero := [.dead] } := by kernel_rfl
@[simp] theorem ty46 : ctx.ty 46 = some { size := 1, bytes := 24, agg := false, zero := [.nil], elem := some 3 } := by kernel_rfl
@[simp] theorem ty47 : ctx.ty 47 = some { size := 1, bytes := 24, agg := false, zero := [.nil], elem := some 5 } := by kernel_rfl
@[simp] theorem ty48 : ctx.ty 48 = some { size := 1, bytes := 8, agg := false, zero := [.dead] } := by kernel_rfl
@[simp] theorem ty49 : ctx.ty 49 = some { size := 1, bytes := 8, agg := false, zero := [.dead] } := by kernel_rfl
@[simp] theorem ty51 : ctx.ty 51 = some { size := 1, bytes := 16, agg := false, zero := [.dead] } := by kernel_rfl
@[simp] theorem ty53 : ctx.ty 53 = some { size := 1, bytes := 8, agg := false, zero := [.dead] } := by kernel_rfl
@[simp] theorem ty54 : ctx.ty 54 = some { size := 1, bytes := 8, agg := false, zero := [.dead] } := by kernel_rfl
@[simp] theorem ty55 : ctx.ty 55 = some { size := 1, bytes := 8, agg := false, zero := [.dead] } := by kernel_rfl
@[simp] theorem ty56 : ctx.ty 56 = some { size := 1, bytes := 8, agg := false, zero := [.dead] } := by kernel_rfl
@[simp] theorem ty57 : ctx.ty 57 = some { size := 1, bytes := 8, agg := false, zero := [.dead] } := by kernel_rfl
@[simp] theorem ty58 : ctx.ty 58 = some { size := 1, bytes := 8, agg := false, zero := [.dead] } := by kernel_rfl
@[simp] theorem ty59 : ctx.ty 59 = some { size := 1, bytes := 8, agg := false, zero := [.dead] } := by kernel_rfl
@[simp] theorem ty61 : ctx.ty 61 = some { size := 1, bytes := 8, agg := false, zero := [.dead] } := by kernel_rfl
@[simp] theorem ty62 : ctx.ty 62 = some { size := 1, bytes := 8, agg := false, zero := [.dead] } := by kernel_rfl
@[simp] theorem ty64 : ctx.ty 64 = some { size := 1, bytes := 8, agg := false, zero := [.int .u64 0], ik := some .u64 } := by kernel_rfl
@[simp] theorem ty66 : ctx.ty 66 = some { size := 1, bytes := 8, agg := false, zero := [.dead] } := by kernel_rfl
@[simp] theorem ty67 : ctx.ty 67 = some { size := 1, bytes := 8, agg := false, zero := [.int .u64 0], ik := some .u64 } := by kernel_rfl
@[simp] theorem ty68 : ctx.ty 68 = some { size := 1, bytes := 8, agg := false, zero := [.dead] } := by kernel_rfl
@[simp] theorem ty69 : ctx.ty 69 = some { size := 1, bytes := 8, agg := false, zero := [.dead] } := by kernel_rfl
@[simp] theorem ty70 : ctx.ty 70 = some { size := 1, bytes := 8, agg := false, zero := [.dead] } := by kernel_rfl
@[simp] theorem ty71 : ctx.ty 71 = some { size := 1, bytes := 8, agg := false, zero := [.dead] } := by kernel_rfl
@[simp] theorem ty72 : ctx.ty 72 = some { size := 1, bytes := 8, agg := false, zero := [.dead] } := by kernel_rfl
@[simp] theorem ty74 : ctx.ty 74 = some { size := 1, bytes := 8, agg := false, zero := [.dead] } := by kernel_rfl
@[simp] theorem ty75 : ctx.ty 75 = some { size := 1, bytes := 8, agg := false, zero := [.dead] } := by kernel_rfl
@[simp] theorem ty77 : ctx.ty 77 = some { size := 1, bytes := 8, agg := false, zero := [.dead] } := by kernel_rfl
@[simp] theorem ty78 : ctx.ty 78 = some { size := 1, bytes := 8, agg := false, zero := [.dead] } := by kernel_rfl
@[simp] theorem ty79 : ctx.ty 79 = some { size := 1, bytes := 8, agg := false, zero := [.dead] } := by kernel_rfl
@[simp] theorem ty80 : ctx.ty 80 = some { size := 1, bytes := 8, agg := false, zero := [.dead] } := by kernel_rfl
@[simp] theorem ty81 : ctx.ty 81 = some { size := 3, bytes := 48, agg := true, zero := [.str ⟨#[]⟩, .str ⟨#[]⟩, .dead], fields := [(0, 1, 9), (1, 1, 9), (2, 1, 51)] } := by kernel_rfl
@[simp] theorem ty82 : ctx.ty 82 = some { size := 3, bytes := 48, agg := true, zero := [.str ⟨#[]⟩, .str ⟨#[]⟩, .dead], fields := [(0, 1, 9), (1, 1, 9), (2, 1, 51)] } := by kernel_rfl
@[simp] theorem ty83 : ctx.ty 83 = some { size := 1, bytes := 8, agg := false, zero := [.dead] } := by kernel_rfl
@[simp] theorem ty84 : ctx.ty 84 = some { size := 1, bytes := 8, agg := false, zero := [.dead] } := by kernel_rfl
@[simp] theorem ty86 : ctx.ty 86 = some { size := 1, bytes := 4, agg := false, zero := [.int .u32 0], ik := some .u32 } := by kernel_rfl
@[simp] theorem ty88 : ctx.ty 88 = some { size := 1, bytes := 8, agg := false, zero := [.dead] } := by kernel_rfl
@[simp] theorem ty89 : ctx.ty 89 = some { size := 1, bytes := 8, agg := false, zero := [.dead] } := by kernel_rfl
@[simp] theorem ty91 : ctx.ty 91 = some { size := 2, bytes := 2, agg := true, zero := [.int .u8 0, .int .u8 0], fields := [(0, 1, 5), (1, 1, 5)] } := by kernel_rfl
@[simp] theorem ty92 : ctx.ty 92 = some { size := 2, bytes := 2, agg := true, zero := [.int .u8 0, .int .u8 0], fields := [(0, 1, 5), (1, 1, 5)] } := by kernel_rfl
@[simp] theorem ty95 : ctx.ty 95 = some { size := 1, bytes := 8, agg := false, zero := [.dead] } := by kernel_rfl
@[simp] theorem ty96 : ctx.ty 96 = some { size := 1, bytes := 8, agg := false, zero := [.dead] } := by kernel_rfl
@[simp] theorem ty97 : ctx.ty 97 = some { size := 1, bytes := 8, agg := false, zero := [.dead] } := by kernel_rfl
@[simp] theorem ty98 : ctx.ty 98 = some { size := 1, bytes := 16, agg := true, zero := [.str ⟨#[]⟩], fields := [(0, 1, 9)] } := by kernel_rfl
@[simp] theorem ty99 : ctx.ty 99 = some { size := 1, bytes := 16, agg := true, zero := [.str ⟨#[]⟩], fields := [(0, 1, 9)] } := by kernel_rfl
@[simp] theorem ty100 : ctx.ty 100 = some { size := 1, bytes := 8, agg := false, zero := [.dead] } := by kernel_rfl
@[simp] theorem ty103 : ctx.ty 103 = some { size := 1, bytes := 8, agg := false, zero := [.dead] } := by kernel_rfl
@[simp] theorem ty104 : ctx.ty 104 = some { size := 4, bytes := 40, agg := true, zero := [.dead, .dead, .dead, .str ⟨#[]⟩], fields := [(0, 1, 17), (1, 1, 17), (2, 1, 17), (3, 1, 9)] } := by kernel_rfl
@[simp] theorem ty107 : ctx.ty 107 = some { size := 0, bytes := 0, agg := true, zero := [], fields := [(0, 0, 106)] } := by kernel_rfl
@[simp] theorem ty109 : ctx.ty 109 = some { size := 1, bytes := 8, agg := false, zero := [.dead] } := by kernel_rfl
@[simp] theorem ty112 : ctx.ty 112 = some { size := 1, bytes := 8, agg := false, zero := [.dead] } := by kernel_rfl
@[simp] theorem ty115 : ctx.ty 115 = some { size := 11, bytes := 48, agg := true, zero := [.int .u64 0, .int .u64 0, .int .u32 0, .int .u8 0, .int .u8 0, .int .u8 0, .int .u8 0, .dead, .dead, .int .i32 0, .int .i32 0], fields := [(0, 1, 12), (1, 1, 12), (2, 1, 86), (3, 1, 110), (4, 1, 5), (5, 1, 5), (6, 1, 111), (7, 1, 112), (8, 1, 96), (9, 1, 113), (10, 1, 114)] } := by kernel_rfl
@[simp] theorem ty117 : ctx.ty 117 = some { size := 1, bytes := 8, agg := false, zero := [.dead] } := by kernel_rfl
@[simp] theorem el33 : elemOf ctx 33 = some { size := 1, bytes := 8, agg := false, zero := [.int .i64 0], ik := some .i64 } := by kernel_rfl
@[simp] theorem el36 : elemOf ctx 36 = some { size := 1, bytes := 16, agg := false, zero := [.str ⟨#[]⟩], isStr := true } := by kernel_rfl
@[simp] theorem el44 : elemOf ctx 44 = some { size := 1, bytes := 8, agg := false, zero := [.dead] } := by kernel_rfl
@[simp] theorem el46 : elemOf ctx 46 = some { size := 1, bytes := 8, agg := false, zero := [.int .i64 0], ik := some .i64 } := by kernel_rfl
@[simp] theorem el47 : elemOf ctx 47 = some { size := 1, bytes := 1, agg := false, zero := [.int .u8 0], ik := some .u8 } := by kernel_rfl
@[simp] theorem eq4 (a b) : ctx.eqA 4 (.bool a) (.bool b) = some (a == b) := rfl
@[simp] theorem eqL_some (ls xs ys) : eqL (some ls) xs ys = if xs.map lfOf = ls.map some ∧ ys.map lfOf = ls.map some then some (cellsEq xs ys) else none := rfl
theorem okC : ctx.Ok where
  mix := by kernel_rfl
  tys := tys
  eqs := by
    intro t x y b h
    change eqT t x y = some b at h
    unfold eqT at h
    split at h
    · cases h; exact eq_bool (by kernel_rfl)
    · cases h
    · cases h
end Go.AE.Tryd
end

section
namespace Go.AE.Tryd
open Go.Proofs


theorem c_spec_l1In (x lo hi : Int) : PC ctx.P 23 [.int .i64 x, .int .i64 lo, .int .i64 hi] (.bool (inR x lo hi)) := by
  refine PC.of okC Tryd.func23 rfl rfl (by kernel_rfl) (Nat.le_of_ble_eq_true rfl) (.bool _) fun h nx _ => ?_
  show goC ctx _ _ (.fin (RetP _ _ _ _ _))
  simp [run_guard]
  refine guardS_split ?_ ?_ <;> intro hb <;> simp [run_guard, hb, resultsA, resA, inR]
  all_goals simpa using hb

theorem c_impl_within (x lo hi : Int) : PC ctx.P 24 [.int .i64 x, .int .i64 lo, .int .i64 hi] (.bool (inR x lo hi)) := by
  refine PC.of okC Tryd.func24 rfl rfl (by kernel_rfl) (Nat.le_of_ble_eq_true rfl) (.bool _) fun h nx _ => ?_
  show goC ctx _ _ (.fin (RetP _ _ _ _ _))
  simp [run_guard]
  refine guardS_split ?_ ?_ <;> intro hb <;> simp [run_guard, hb, resultsA, resA, inR]
  all_goals simpa using hb

theorem c_laws_toOrder (a b c d e : Int) : PC ctx.P 6 [.agg [.int .i64 a, .int .i64 b, .int .i64 c, .int .i64 d, .int .i64 e]] (.agg [.int .i64 a, .int .i64 b, .int .i64 c, .int .i64 d, .int .i64 e]) := by
  refine PC.of okC Tryd.func6 rfl rfl (by kernel_rfl) (Nat.le_of_ble_eq_true rfl) (.agg _ (by simp; repeat' constructor)) fun h nx _ => ?_
  show goC ctx _ _ (.fin (RetP _ _ _ _ _))
  simp [resultsA, resA, Nat.add_assoc]
theorem c_impl_Order_args (a b c d e : Int) : PC ctx.P 25 [.agg [.int .i64 a, .int .i64 b, .int .i64 c, .int .i64 d, .int .i64 e]] (.view true 1 [[.int .i64 b], [.int .i64 c], [.int .i64 d], [.int .i64 e]]) := by
  refine PC.of okC Tryd.func25 rfl rfl (by kernel_rfl) (Nat.le_of_ble_eq_true rfl) (.view' (by simp; repeat' constructor)) fun h nx _ => ?_
  show goC ctx _ _ (.fin (RetP _ _ _ _ _))
  simp [resultsA, resA, Nat.add_assoc]


def arity (k : Int) : Int := if k = 1 then 4 else if k = 6 ∨ k = 8 ∨ k = 11 ∨ k = 12 ∨ k = 13 then 1 else if k = 14 then 0 else 2


theorem c_impl_arity (k : Int) : PC ctx.P 26 [.int .i64 k] (.int .i64 (arity k)) := by
  refine PC.of okC Tryd.func26 rfl rfl (by kernel_rfl) (Nat.le_of_ble_eq_true rfl) (.int _ _) fun h nx _ => ?_
  show goC ctx _ _ (.fin (RetP _ _ _ _ _))
  by_cases h1 : k = 1
  · subst h1; simp [resultsA, resA, arity]
  by_cases h6 : k = 6
  · subst h6; simp [resultsA, resA, arity]
  by_cases h8 : k = 8
  · subst h8; simp [resultsA, resA, arity]
  by_cases h11 : k = 11
  · subst h11; simp [resultsA, resA, arity]
  by_cases h12 : k = 12
  · subst h12; simp [resultsA, resA, arity]
  by_cases h13 : k = 13
  · subst h13; simp [resultsA, resA, arity]
  by_cases h14 : k = 14
  · subst h14; simp [resultsA, resA, arity]
  simp [resultsA, resA, arity, h1, h6, h8, h11, h12, h13, h14, beq_eq_false_iff_ne.2 h1, beq_eq_false_iff_ne.2 h6, beq_eq_false_iff_ne.2 h8, beq_eq_false_iff_ne.2 h11, beq_eq_false_iff_ne.2 h12, beq_eq_false_iff_ne.2 h13, beq_eq_false_iff_ne.2 h14]

theorem c_spec_l20Args (k : Int) (h1 : 1 ≤ k) (h2 : k ≤ 14) : PC ctx.P 13 [.int .i64 k] (.int .i64 (arity k)) := by
  refine PC.of okC Tryd.func13 rfl rfl (by kernel_rfl) (Nat.le_of_ble_eq_true rfl) (.int _ _) fun h nx _ => ?_
  show goC ctx _ _ (.fin (RetP _ _ _ _ _))
  have hk : k = 1 ∨ k = 2 ∨ k = 3 ∨ k = 4 ∨ k = 5 ∨ k = 6 ∨ k = 7 ∨ k = 8 ∨ k = 9 ∨ k = 10 ∨ k = 11 ∨ k = 12 ∨ k = 13 ∨ k = 14 := by omega
  rcases hk with rfl | rfl | rfl | rfl | rfl | rfl | rfl | rfl | rfl | rfl | rfl | rfl | rfl | rfl <;>
    (simp; refine iaddr_ref rfl (by decide) (by decide) ?_; simp; refine loadE_row rfl ?_; simp [resultsA, resA, arity])

def argOk (k : Int) (i : Nat) (x : Int) : Bool := !(!inR x (-1000) 1000000 || (decide (arity k ≤ i) && x != 0))
def argsOk (k : Int) : Nat → List Int → Bool
  | _, [] => true
  | i, x :: xs => argOk k i x && argsOk k (i + 1) xs

theorem argsOk_all {k : Int} : ∀ (xs : List Int) (o : Nat), (∀ (i : Nat) x, xs[i]? = some x → argOk k (o + i) x = true) → argsOk k o xs = true
  | [], _, _ => rfl
  | x :: xs, o, h => by
    simp only [argsOk, Bool.and_eq_true]
    exact ⟨h 0 x rfl, argsOk_all xs (o + 1) fun i y hy => by rw [Nat.add_assoc, Nat.add_comm 1]; exact h (i + 1) y (by simpa using hy)⟩
theorem argsOk_bad {k : Int} : ∀ (xs : List Int) (o i : Nat) (x : Int), xs[i]? = some x → argOk k (o + i) x = false → argsOk k o xs = false
  | [], _, i, x, h, _ => by simp at h
  | y :: xs, o, 0, x, h, hb => by
    simp at h; subst h; simp only [argsOk, Nat.add_zero] at hb ⊢; simp [hb]
  | y :: xs, o, i + 1, x, h, hb => by
    simp only [argsOk, argsOk_bad xs (o + 1) i x (by simpa using h) (by rw [Nat.add_assoc, Nat.add_comm 1]; exact hb), Bool.and_false]

def orderOk (k a b c d : Int) : Bool := inR k 1 14 && argsOk k 0 [a, b, c, d]
theorem wrap_succO {i n : Nat} (h : i < n) (hn : n ≤ 4611686018427387904) : IntKind.i64.wrap ((i : Int) + 1) = ((i + 1 : Nat) : Int) := by
  rw [IntWalk.i64_in _ (by omega)]; omega

theorem c_spec_OrderOk (k a b c d : Int) : PC ctx.P 11 [.agg [.int .i64 k, .int .i64 a, .int .i64 b, .int .i64 c, .int .i64 d]] (.bool (orderOk k a b c d)) := by
  refine PC.of okC Tryd.func11 rfl rfl (by kernel_rfl) (Nat.le_of_ble_eq_true rfl) (.bool _) fun h nx _ => ?_
  show goC ctx _ _ (.fin (RetP _ _ _ _ _))
  simp [resultsA, resA]
  refine call_pc (c_spec_l1In _ _ _) ?_
  simp [resultsA, resA]
  refine condS_split ?_ ?_ <;> intro hk <;> simp at hk <;> simp [resultsA, resA, orderOk, hk, Nat.add_assoc]
  refine go_loop_up 4 (fun i s => s.t 4 = .int .i64 i ∧ s.t 3 = .ref (nx + 14) 1 0 4 ∧ s.t 1 = .ptr nx 0 ∧ s.h nx = some (.obj [.int .i64 k, .int .i64 a, .int .i64 b, .int .i64 c, .int .i64 d]) ∧
      s.h (nx + 14) = some (.row 1 [[.int .i64 a], [.int .i64 b], [.int .i64 c], [.int .i64 d]]) ∧ KeepB nx s.h h ∧ ∀ (j : Nat) x, j < i → [a, b, c, d][j]? = some x → argOk k j x = true) ?_ ?_
  · exact ⟨rfl, by simp, by simp, by simp, by simp, by simp [Nat.add_assoc], fun j x hj => by omega⟩
  · rintro i ⟨t, h', n'⟩ hle ⟨hi, h3, h1, hp, hr, hK, hall⟩ next hn
    simp at hi h3 h1 hp hr hK
    have hk' : 1 ≤ k ∧ k ≤ 14 := by simpa [inR] using hk
    simp [hi, h3, h1, hp, hr]
    refine condS_split ?_ ?_ <;> intro hlt <;> simp at hlt
    · have hlt : i < 4 := by omega
      obtain ⟨x, hx⟩ : ∃ x, [a, b, c, d][i]? = some x := ⟨_, List.getElem?_eq_getElem (by simpa using hlt)⟩
      have hx' : [[AV.int .i64 a], [.int .i64 b], [.int .i64 c], [.int .i64 d]][i]? = some [.int .i64 x] := by
        show ([a, b, c, d].map fun x => [AV.int .i64 x])[i]? = _
        rw [List.getElem?_map, hx]; rfl
      simp [hi, h3, h1, hp, hr]
      refine iaddr_ref rfl (by omega) (by omega) ?_
      simp [hi, h3, h1, hp, hr]
      refine loadE_row hx' ?_
      simp
      refine call_pc (c_spec_l1In _ _ _) ?_
      simp [run_guard]
      refine guardS_split ?_ ?_ <;> intro hb <;> simp at hb <;> simp [run_guard, hi, h3, h1, hp, hr, hb]
      · simp [resultsA, resA, hK]
        refine argsOk_bad _ 0 i x hx ?_
        simp [argOk, hb]
      · refine call_pc (c_spec_l20Args _ hk'.1 hk'.2) ?_
        simp [run_guard]
        refine guardS_split ?_ ?_ <;> intro hc <;> simp at hc <;> simp [run_guard, hi, h3, h1, hp, hr, hb, hc]
        · refine iaddr_ref rfl (by omega) (by omega) ?_
          simp [run_guard, hi, h3, h1, hp, hr]
          refine loadE_row hx' ?_
          simp [run_guard, hc]
          refine condS_split ?_ ?_ <;> intro hd <;> simp at hd <;> simp [resultsA, resA, hK, hi, hd]
          · exact argsOk_bad _ 0 i x hx (by simp [argOk, hb, hc, hd])
          · refine hn _ (by omega) ⟨by simp [wrap_succO hlt], by simp [h3], by simp [h1], by simp [hp], by simp [hr], hK, fun j y hj hy => ?_⟩
            by_cases hji : j = i
            · subst hji; rw [hx] at hy; cases hy; subst hd; simp [argOk, hb]
            · exact hall j y (by omega) hy
        · have hc' : ¬ arity k ≤ (i : Int) := by omega
          simp [run_guard, hc', hi]
          refine hn _ (by omega) ⟨by simp [wrap_succO hlt], by simp [h3], by simp [h1], by simp [hp], by simp [hr], hK, fun j y hj hy => ?_⟩
          by_cases hji : j = i
          · subst hji; rw [hx] at hy; cases hy; simp [argOk, hb, hc]
          · exact hall j y (by omega) hy
    · simp [resultsA, resA, hK]
      exact (argsOk_all _ 0 fun j y hy => by rw [Nat.zero_add]; exact hall j y (by have := (List.getElem?_eq_some_iff.1 hy).1; simp at this; omega) hy)

theorem c_impl_OrderOk (k a b c d : Int) : PC ctx.P 15 [.agg [.int .i64 k, .int .i64 a, .int .i64 b, .int .i64 c, .int .i64 d]] (.bool (orderOk k a b c d)) := by
  refine PC.of okC Tryd.func15 rfl rfl (by kernel_rfl) (Nat.le_of_ble_eq_true rfl) (.bool _) fun h nx _ => ?_
  show goC ctx _ _ (.fin (RetP _ _ _ _ _))
  simp [resultsA, resA]
  refine call_pc (c_impl_within _ _ _) ?_
  simp [resultsA, resA]
  refine condS_split ?_ ?_ <;> intro hk <;> simp at hk <;> simp [resultsA, resA, orderOk, hk, Nat.add_assoc]
  refine call_pc (c_impl_Order_args _ _ _ _ _) ?_
  simp
  refine lenS_slice rfl fun _ => ?_
  simp
  refine go_loop_up 4 (fun i s => s.t 12 = .int .i64 i ∧ s.t 11 = .int .i64 4 ∧ s.t 10 = .view true 1 [[.int .i64 a], [.int .i64 b], [.int .i64 c], [.int .i64 d]] ∧ s.t 1 = .ptr nx 0 ∧
      s.h nx = some (.obj [.int .i64 k, .int .i64 a, .int .i64 b, .int .i64 c, .int .i64 d]) ∧ KeepB nx s.h h ∧ ∀ (j : Nat) x, j < i → [a, b, c, d][j]? = some x → argOk k j x = true) ?_ ?_
  · exact ⟨rfl, by simp, by simp, by simp, by simp, by simp [Nat.add_assoc], fun j x hj => by omega⟩
  · rintro i ⟨t, h', n'⟩ hle ⟨hi, hn4, h10, h1, hp, hK, hall⟩ next hn
    simp at hi hn4 h10 h1 hp hK
    simp [hi, hn4, h10, h1, hp]
    refine condS_split ?_ ?_ <;> intro hlt <;> simp at hlt
    · have hlt : i < 4 := by omega
      obtain ⟨x, hx⟩ : ∃ x, [a, b, c, d][i]? = some x := ⟨_, List.getElem?_eq_getElem (by simpa using hlt)⟩
      have hx' : [[AV.int .i64 a], [.int .i64 b], [.int .i64 c], [.int .i64 d]][i]? = some [.int .i64 x] := by
        show ([a, b, c, d].map fun x => [AV.int .i64 x])[i]? = _
        rw [List.getElem?_map, hx]; rfl
      simp [hi, hn4, h10, h1, hp]
      refine iaddr_view rfl (by omega) hx' ?_
      simp [hi, hn4, h10, h1, hp]
      refine call_pc (c_impl_within _ _ _) ?_
      simp [run_guard]
      refine guardS_split ?_ ?_ <;> intro hb <;> simp at hb <;> simp [run_guard, hi, hn4, h10, h1, hp, hb]
      · simp [resultsA, resA, hK]
        refine argsOk_bad _ 0 i x hx ?_
        simp [argOk, hb]
      · refine call_pc (c_impl_arity _) ?_
        simp [run_guard]
        refine guardS_split ?_ ?_ <;> intro hc <;> simp at hc <;> simp [run_guard, hi, hn4, h10, h1, hp, hb, hc]
        · refine condS_split ?_ ?_ <;> intro hd <;> simp at hd <;> simp [resultsA, resA, hK, hi, hd]
          · exact argsOk_bad _ 0 i x hx (by simp [argOk, hb, hc, hd])
          · refine hn _ (by omega) ⟨by simp [wrap_succO hlt], by simp [hn4], by simp [h10], by simp [h1], by simp [hp], hK, fun j y hj hy => ?_⟩
            by_cases hji : j = i
            · subst hji; rw [hx] at hy; cases hy; subst hd; simp [argOk, hb]
            · exact hall j y (by omega) hy
        · have hc' : ¬ arity k ≤ (i : Int) := by omega
          simp [run_guard, hc', hi]
          refine hn _ (by omega) ⟨by simp [wrap_succO hlt], by simp [hn4], by simp [h10], by simp [h1], by simp [hp], hK, fun j y hj hy => ?_⟩
          by_cases hji : j = i
          · subst hji; rw [hx] at hy; cases hy; simp [argOk, hb, hc]
          · exact hall j y (by omega) hy
    · simp [resultsA, resA, hK]
      exact (argsOk_all _ 0 fun j y hy => by rw [Nat.zero_add]; exact hall j y (by have := (List.getElem?_eq_some_iff.1 hy).1; simp at this; omega) hy)

end Go.AE.Tryd
end

section
/- The texts of orders: what the program and the reference tell. -/
namespace Go.Proofs.YteccfcojjcnokaaDoor
open Go Go.Proofs Go.RowKit
open Go.AE (AV VR VRs VRs PC Imm0)
theorem pc_bool {P : Program} {f : FuncId} {args : List AV} {b : Bool} {W : World} {vs : Array Value} (hc : PC P f args (.bool b)) (hv : VRs (fun _ => none) (Imm0 W) W args vs) :
    Calls P f vs W fun e w' => e = .returned (.bool b) ∧ Below W.heap.size W w' := by
  have := hc (fun _ => none) 0 (fun r _ _ => r = .bool b) rfl
  refine (this.2 (fun _ => none) (Imm0 W) W vs (fun _ _ h => (by cases h)) ⟨fun _ _ h => (by cases h), fun _ _ _ h => (by cases h), fun _ _ _ _ _ _ _ h => (by cases h), fun _ _ _ _ _ h => (by cases h), fun _ _ h => h⟩ hv).mono ?_
  rintro e w' ⟨v, r, h', nx', ρ', I', rfl, rfl, hvr, H', E, _, _, _⟩
  cases hvr
  exact ⟨rfl, E.os, E.tape, E.output, E.size, fun k hk => E.frame k hk fun ⟨_, _, _, h, _⟩ => (by cases h)⟩
theorem vr5 {ρ I w} (k a b c d : Int) : VR ρ I w (.agg [.int .i64 k, .int .i64 a, .int .i64 b, .int .i64 c, .int .i64 d]) (.agg #[.int .i64 k, .int .i64 a, .int .i64 b, .int .i64 c, .int .i64 d]) :=
  .agg _ _ rfl fun i x u hx hu => by
    match i with
    | 0 | 1 | 2 | 3 | 4 => simp at hx hu; subst hx; subst hu; exact .int _ _
    | i + 5 => simp at hx
theorem ok_impl (k a b c d : Int) (w : World) : Calls Tryd.prog 15 #[.agg #[.int .i64 k, .int .i64 a, .int .i64 b, .int .i64 c, .int .i64 d]] w fun e w' => e = .returned (.bool (Go.AE.Tryd.orderOk k a b c d)) ∧ Below w.heap.size w w' :=
  pc_bool (Go.AE.Tryd.c_impl_OrderOk k a b c d) (Go.AE.vrs1 (vr5 k a b c d))
theorem ok_spec (k a b c d : Int) (w : World) : Calls Tryd.prog 11 #[.agg #[.int .i64 k, .int .i64 a, .int .i64 b, .int .i64 c, .int .i64 d]] w fun e w' => e = .returned (.bool (Go.AE.Tryd.orderOk k a b c d)) ∧ Below w.heap.size w w' :=
  pc_bool (Go.AE.Tryd.c_spec_OrderOk k a b c d) (Go.AE.vrs1 (vr5 k a b c d))
theorem pc_int {P : Program} {f : FuncId} {args : List AV} {n : Int} {W : World} {vs : Array Value} (hc : PC P f args (.int .i64 n)) (hv : VRs (fun _ => none) (Imm0 W) W args vs) :
    Calls P f vs W fun e w' => e = .returned (.int .i64 n) ∧ Below W.heap.size W w' := by
  have := hc (fun _ => none) 0 (fun r _ _ => r = .int .i64 n) rfl
  refine (this.2 (fun _ => none) (Imm0 W) W vs (fun _ _ h => (by cases h)) ⟨fun _ _ h => (by cases h), fun _ _ _ h => (by cases h), fun _ _ _ _ _ _ _ h => (by cases h), fun _ _ _ _ _ h => (by cases h), fun _ _ h => h⟩ hv).mono ?_
  rintro e w' ⟨v, r, h', nx', ρ', I', rfl, rfl, hvr, H', E, _, _, _⟩
  cases hvr
  exact ⟨rfl, E.os, E.tape, E.output, E.size, fun k hk => E.frame k hk fun ⟨_, _, _, h, _⟩ => (by cases h)⟩
theorem args_spec {k : Int} (h1 : 1 ≤ k) (h2 : k ≤ 14) (w : World) : Calls Tryd.prog 13 #[.int .i64 k] w fun e w' => e = .returned (.int .i64 (arityN k)) ∧ Below w.heap.size w w' := by
  have e : (arityN k : Int) = Go.AE.Tryd.arity k := by
    rcases (by omega : k = 1 ∨ k = 2 ∨ k = 3 ∨ k = 4 ∨ k = 5 ∨ k = 6 ∨ k = 7 ∨ k = 8 ∨ k = 9 ∨ k = 10 ∨ k = 11 ∨ k = 12 ∨ k = 13 ∨ k = 14) with rfl | rfl | rfl | rfl | rfl | rfl | rfl | rfl | rfl | rfl | rfl | rfl | rfl | rfl <;> decide
  rw [e]
  exact pc_int (Go.AE.Tryd.c_spec_l20Args k h1 h2) (Go.AE.vrs1 (.int _ _))
theorem ok_rng {k a b c d : Int} (h : Go.AE.Tryd.orderOk k a b c d = true) : (1 ≤ k ∧ k ≤ 14) ∧ (-1000 ≤ a ∧ a ≤ 1000000) ∧ (-1000 ≤ b ∧ b ≤ 1000000) ∧ (-1000 ≤ c ∧ c ≤ 1000000) ∧ (-1000 ≤ d ∧ d ≤ 1000000) := by
  simp only [Go.AE.Tryd.orderOk, Go.AE.Tryd.argsOk, Go.AE.Tryd.argOk, Bool.and_eq_true, Bool.not_eq_true', Bool.or_eq_false_iff, Bool.not_eq_false', Go.AE.inR, decide_eq_true_eq] at h
  omega
def showV (k a b c d : Int) : List UInt8 := if Go.AE.Tryd.orderOk k a b c d = true then showL k a b c d else []
set_option maxRecDepth 100000 in
set_option maxHeartbeats 4000000 in
theorem show_impl (k a b c d : Int) (w : World) (ht : Tab w) : Calls Tryd.prog 7 #[.agg #[.int .i64 k, .int .i64 a, .int .i64 b, .int .i64 c, .int .i64 d]] w fun e w' => e = .returned (.string ⟨(showV k a b c d).toArray⟩) ∧ Below w.heap.size w w' := by
  have hok := ok_impl k a b c d
  unfold showV
  have bel0 : Below w.heap.size w (w.alloc (.cells #[.int .i64 k, .int .i64 a, .int .i64 b, .int .i64 c, .int .i64 d] 25)) := (Below.refl _ _).alloc (Nat.le_refl _) _
  cases ho : Go.AE.Tryd.orderOk k a b c d with
  | false =>
    rw [ho] at hok
    go_enter Tryd.func7, Tryd.ntmps7
    go_wp2_with (go_at_call 15; refine (hok _).mono ?_; rintro e w1 ⟨rfl, bel1⟩)
    go_ret
    exact ⟨rfl, bel0.trans (bel1.mono (by simp))⟩
  | true =>
    rw [ho] at hok
    obtain ⟨⟨k1, k2⟩, ha, hb, hc, hd⟩ := ok_rng ho
    go_enter Tryd.func7, Tryd.ntmps7
    go_wp2_with (first
      | (go_at_call 15; refine (hok _).mono ?_; rintro e w1 ⟨rfl, bel1⟩; have s1 := bel1.size; have hlt : w.heap.size < w1.heap.size := (by simp at s1; omega); have x0 : ∀ i : Nat, w1.cell? ⟨w.heap.size, i, none⟩ = (#[.int .i64 k, .int .i64 a, .int .i64 b, .int .i64 c, .int .i64 d] : Array Value)[i]? := fun i => (by rw [bel1.cell (by simp)]; simp); have z0 := x0 0; have z1 := x0 1; have z2 := x0 2; have z3 := x0 3; have z4 := x0 4; simp at z0 z1 z2 z3 z4; clear x0)
      | (go_at_call 16; refine (orderText_walk k a b c d k1 k2 ha hb hc hd _ (ht.below (bel0.trans (bel1.mono (by simp))))).mono ?_; rintro e w2 ⟨rfl, bel2⟩))
    go_ret
    exact ⟨rfl, (bel0.trans (bel1.mono (by simp))).trans (bel2.mono (by omega))⟩
end Go.Proofs.YteccfcojjcnokaaDoor
end

section
/- The texts of orders: what the reference tells; the law. -/
namespace Go.Proofs.YteccfcojjcnokaaDoor
open Go Go.Proofs Go.RowKit
open Go.AE (AV VR VRs PC Imm0)
set_option maxRecDepth 100000 in
set_option maxHeartbeats 4000000 in
theorem show_spec (k a b c d : Int) (w : World) : Calls Tryd.prog 5 #[.agg #[.int .i64 k, .int .i64 a, .int .i64 b, .int .i64 c, .int .i64 d]] w fun e w' => e = .returned (.string ⟨(showV k a b c d).toArray⟩) ∧ Below w.heap.size w w' := by
  have hok := ok_spec k a b c d
  unfold showV
  have bel0 : Below w.heap.size w (w.alloc (.cells #[.int .i64 k, .int .i64 a, .int .i64 b, .int .i64 c, .int .i64 d] 25)) := (Below.refl _ _).alloc (Nat.le_refl _) _
  cases ho : Go.AE.Tryd.orderOk k a b c d with
  | false =>
    rw [ho] at hok
    go_enter Tryd.func5, Tryd.ntmps5
    go_wp2_with (go_at_call 11; refine (hok _).mono ?_; rintro e w1 ⟨rfl, bel1⟩)
    go_ret
    exact ⟨rfl, bel0.trans (bel1.mono (by simp))⟩
  | true =>
    rw [ho] at hok
    obtain ⟨⟨k1, k2⟩, ha, hb, hc, hd⟩ := ok_rng ho
    have la := text_len ha
    have lb := text_len hb
    have lc := text_len hc
    have ld := text_len hd
    have hv := verb_len k1 k2
    have hk4 : arityN k ≤ 4 := by unfold arityN; split; omega; split; omega; split <;> omega
    go_enter Tryd.func5, Tryd.ntmps5
    go_wp2_with (first
      | (go_at_call 11; refine (hok _).mono ?_; rintro e w1 ⟨rfl, bel1⟩; have s1 := bel1.size; have hlt : w.heap.size < w1.heap.size := (by simp at s1; omega); have x0 : ∀ i : Nat, w1.cell? ⟨w.heap.size, i, none⟩ = (#[.int .i64 k, .int .i64 a, .int .i64 b, .int .i64 c, .int .i64 d] : Array Value)[i]? := fun i => (by rw [bel1.cell (by simp)]; simp); have z0 := x0 0; have z1 := x0 1; have z2 := x0 2; have z3 := x0 3; have z4 := x0 4; simp at z0 z1 z2 z3 z4; clear x0)
      | (go_at_call 12; refine (verb_walk k k1 k2 _).mono ?_; rintro e w2 ⟨rfl, bel2⟩))
    have hcl : ∀ i : Nat, i < 4 → w2.cell? ⟨w1.heap.size, i, none⟩ = some (.int .i64 (gt4 a b c d i)) := fun i hi => by
      rw [bel2.cell (by simp)]
      rcases (by omega : i = 0 ∨ i = 1 ∨ i = 2 ∨ i = 3) with rfl | rfl | rfl | rfl <;> simp [gt4]
    have z5 : w2.cell? ⟨w.heap.size, 0, none⟩ = some (.int .i64 k) := by
      rw [bel2.cell (by simp; omega)]; exact (World.cell?_of_block (Below.heap_alloc w1 _ _ hlt)).trans z0
    have s2 := bel2.size
    simp at s2
    have bel3 : Below w.heap.size w w2 := (bel0.trans (bel1.mono (by simp))).trans (((Below.refl _ _).alloc (by omega) _).trans (bel2.mono (by simp; omega)))
    go_loopw [4, 5] (fun x i wr => ∃ j : Nat, j ≤ arityN k ∧ x = .string ⟨(verbL k ++ (([a, b, c, d] : List Int).take j).flatMap fun x => 32 :: Lib.itoa x).toArray⟩ ∧ i = .int .i64 j ∧ Below w2.heap.size w2 wr)
      (fun _ i _ => arityN k - (intOf i).toNat)
    case atStart => exact ⟨0, Nat.zero_le _, by simp, rfl, Below.refl _ _⟩
    case round =>
      obtain ⟨j, hj, rfl, rfl, hnx⟩ := hrel
      have s3 := hnx.size
      have hcell : j < 4 → wr.cell? ⟨w1.heap.size, j, none⟩ = some (.int .i64 (gt4 a b c d j)) := fun h => (hnx.cell (by simp; omega)).trans (hcl j h)
      have z6 : wr.cell? ⟨w.heap.size, 0, none⟩ = some (.int .i64 k) := (hnx.cell (by simp; omega)).trans z5
      have hLl : (verbL k ++ (([a, b, c, d] : List Int).take j).flatMap fun x => 32 :: Lib.itoa x).length ≤ 200 := by
        rcases (by omega : j = 0 ∨ j = 1 ∨ j = 2 ∨ j = 3 ∨ j = 4) with rfl | rfl | rfl | rfl | rfl <;> simp <;> omega
      have hnext : j < 4 → (verbL k ++ (([a, b, c, d] : List Int).take (j + 1)).flatMap fun x => 32 :: Lib.itoa x) = (verbL k ++ (([a, b, c, d] : List Int).take j).flatMap fun x => 32 :: Lib.itoa x) ++ (32 :: Lib.itoa (gt4 a b c d j)) := fun h => by
        rcases (by omega : j = 0 ∨ j = 1 ∨ j = 2 ∨ j = 3) with rfl | rfl | rfl | rfl <;> simp [gt4]
      have hrng : -1000 ≤ gt4 a b c d j ∧ gt4 a b c d j ≤ 1000000 := by unfold gt4; split <;> assumption
      have hend : j = arityN k → showL k a b c d = verbL k ++ (([a, b, c, d] : List Int).take j).flatMap fun x => 32 :: Lib.itoa x := fun h => by rw [h]; rfl
      generalize verbL k ++ (([a, b, c, d] : List Int).take j).flatMap (fun x => 32 :: Lib.itoa x) = L at *
      rcases Nat.lt_or_ge j (arityN k) with hj2 | hj2
      · have hc2 := hcell (by omega)
        have hn2 := hnext (by omega)
        have hl2 := text_len hrng
        generalize gt4 a b c d j = z at *
        have hj3 : (j : Int) < (arityN k : Int) := by omega
        have hj4 : (j : Int) < 4 := by omega
        go_wp2_with (first
          | (go_at_call 13; refine (args_spec k1 k2 _).mono ?_; rintro e w3 ⟨rfl, bel4⟩; have hc3 : w3.cell? ⟨w1.heap.size, j, none⟩ = some (.int .i64 z) := (bel4.cell (by simp; omega)).trans hc2)
          | (go_at_call 14; refine (l1Int_walk z (by omega) (by omega) _).mono ?_; rintro e w4 ⟨rfl, bel5⟩))
        exact ⟨⟨j + 1, by omega, by rw [ByteArray.append_assoc, bcat, bcatL, hn2], by simp, (hnx.trans (bel4.mono hnx.size)).trans (bel5.mono (by have := bel4.size; omega))⟩, by simp [intOf]; omega⟩
      · have : j = arityN k := by omega
        have hj3 : ¬ (j : Int) < (arityN k : Int) := by omega
        go_wp2_with (go_at_call 13; refine (args_spec k1 k2 _).mono ?_; rintro e w3 ⟨rfl, bel4⟩)
        go_ret
        exact ⟨rfl, (bel3.trans (hnx.mono bel3.size)).trans (bel4.mono (by omega))⟩
theorem vr5_inv {ρ I w} {k a b c d : Int} {v : Value} (h : VR ρ I w (.agg [.int .i64 k, .int .i64 a, .int .i64 b, .int .i64 c, .int .i64 d]) v) : v = .agg #[.int .i64 k, .int .i64 a, .int .i64 b, .int .i64 c, .int .i64 d] := by
  cases h with
  | agg _ vs h1 h2 =>
    obtain ⟨l⟩ := vs
    match l, h1 with
    | [x0, x1, x2, x3, x4], _ =>
      have g0 := h2 0 _ _ rfl rfl
      have g1 := h2 1 _ _ rfl rfl
      have g2 := h2 2 _ _ rfl rfl
      have g3 := h2 3 _ _ rfl rfl
      have g4 := h2 4 _ _ rfl rfl
      cases g0; cases g1; cases g2; cases g3; cases g4
      rfl
theorem toOrder_walk (k a b c d : Int) (w : World) : Calls Tryd.prog 6 #[.agg #[.int .i64 k, .int .i64 a, .int .i64 b, .int .i64 c, .int .i64 d]] w fun e w' => e = .returned (.agg #[.int .i64 k, .int .i64 a, .int .i64 b, .int .i64 c, .int .i64 d]) ∧ Below w.heap.size w w' := by
  have := Go.AE.Tryd.c_laws_toOrder k a b c d (fun _ => none) 0 (fun r _ _ => r = .agg [.int .i64 k, .int .i64 a, .int .i64 b, .int .i64 c, .int .i64 d]) rfl
  refine (this.2 (fun _ => none) (Imm0 w) w _ (fun _ _ h => (by cases h)) ⟨fun _ _ h => (by cases h), fun _ _ _ h => (by cases h), fun _ _ _ _ _ _ _ h => (by cases h), fun _ _ _ _ _ h => (by cases h), fun _ _ h => h⟩ (Go.AE.vrs1 (vr5 k a b c d))).mono ?_
  rintro e w' ⟨v, r, h', nx', ρ', I', rfl, rfl, hvr, H', E, _, _, _⟩
  rw [vr5_inv hvr]
  exact ⟨rfl, E.os, E.tape, E.output, E.size, fun k hk => E.frame k hk fun ⟨_, _, _, h, _⟩ => (by cases h)⟩
set_option maxRecDepth 100000 in
set_option maxHeartbeats 4000000 in
theorem law_walk (k a b c d : Int) (w : World) (ht : Tab w) : Calls Tryd.prog 3 #[.agg #[.int .i64 k, .int .i64 a, .int .i64 b, .int .i64 c, .int .i64 d]] w fun e w' => e = .returned (.bool true) ∧ Below w.heap.size w w' := by
  have bel0 : Below w.heap.size w (w.alloc (.cells #[.int .i64 k, .int .i64 a, .int .i64 b, .int .i64 c, .int .i64 d] 23)) := (Below.refl _ _).alloc (Nat.le_refl _) _
  have hlt : ∀ w1, Below (w.alloc (.cells #[.int .i64 k, .int .i64 a, .int .i64 b, .int .i64 c, .int .i64 d] 23)).heap.size (w.alloc (.cells #[.int .i64 k, .int .i64 a, .int .i64 b, .int .i64 c, .int .i64 d] 23)) w1 →
      w.heap.size < w1.heap.size ∧ w1.cell? ⟨w.heap.size, 0, none⟩ = some (.int .i64 k) ∧ w1.cell? ⟨w.heap.size, 1, none⟩ = some (.int .i64 a) ∧ w1.cell? ⟨w.heap.size, 2, none⟩ = some (.int .i64 b) ∧ w1.cell? ⟨w.heap.size, 3, none⟩ = some (.int .i64 c) ∧ w1.cell? ⟨w.heap.size, 4, none⟩ = some (.int .i64 d) := fun w1 bel1 => by
    have s1 := bel1.size
    simp at s1
    refine ⟨by omega, ?_, ?_, ?_, ?_, ?_⟩ <;> (rw [bel1.cell (by simp)]; simp)
  go_enter Tryd.func3, Tryd.ntmps3
  go_wp2_with (first
    | (go_at_call 6; refine (toOrder_walk k a b c d _).mono ?_; rintro e w1 ⟨rfl, bel1⟩)
    | (go_at_call 5; refine (show_spec k a b c d _).mono ?_; rintro e w2 ⟨rfl, bel2⟩; have bel3 := bel1.trans (bel2.mono bel1.size); obtain ⟨hl, z0, z1, z2, z3, z4⟩ := hlt _ bel3)
    | (go_at_call 7; refine (show_impl k a b c d _ (ht.below ((bel0.trans (bel3.mono (by simp))).trans (bel1.mono (by omega))))).mono ?_; rintro e w4 ⟨rfl, bel4⟩))
  go_ret
  exact ⟨rfl, ((bel0.trans (bel3.mono (by simp))).trans (bel1.mono (by omega))).trans (bel4.mono (by have := bel1.size; omega))⟩
end Go.Proofs.YteccfcojjcnokaaDoor
end
