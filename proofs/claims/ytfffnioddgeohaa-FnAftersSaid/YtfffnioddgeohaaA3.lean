/- An abstract machine over the model: its states, its steps, and that what it shows holds of the model. -/
import Derived.Test.YtfffnioddgeohaaA2
import Derived.ChangeShapes
import Derived.Deep.Slices
import Derived.DataReads
import Derived.Below
import Derived.WideShapes
import GoSem.ClaimJoined
set_option linter.unusedVariables false
set_option linter.unusedSimpArgs false
set_option linter.deprecated false
section
/- What the reference's readers answer, against the program's. -/
namespace Go.AE

structure Odr where
  kind : Int
  a : Int
  b : Int
  c : Int
  d : Int
  deriving DecidableEq, Inhabited
def odrC (x : Odr) : List AV := [.int .i64 x.kind, .int .i64 x.a, .int .i64 x.b, .int .i64 x.c, .int .i64 x.d]
@[simp] theorem odrC_len (x : Odr) : (odrC x).length = 5 := rfl
@[simp] theorem odrC_take (x : Odr) : (odrC x).take 5 = odrC x := rfl
@[simp] theorem odrC_one (x : Odr) : (odrC x).all AV.one = true := rfl
@[simp] theorem frz_odrC (h x) : frz h (odrC x) = some (odrC x, h) := by simp [odrC]
def lsum {α : Type} (f : α → Nat) : List α → Nat
  | [] => 0
  | x :: xs => f x + lsum f xs
theorem sltV_fz {F} (x : Slt) : ∀ c ∈ sltV F x, Fz c := by simp [sltV]; exact ⟨.vmap iv_fz, .vmap bv_fz⟩
theorem afsV_fz {F} (x : Afs) : ∀ c ∈ afsV F x, Fz c := by simp [afsV]; exact ⟨.vmap iv_fz, .vmap bv_fz, .vmap afrC_fz⟩
theorem afsAt_here {l : List Afr} {i : Nat} (hi : i < l.length) : (afsAt l (gt l (i : Int)).han == (i : Int)) = decide (idxI (fun y => y.han == (gt l (i : Int)).han) (l.take i) 0 < 0) := by
  have key : ∀ (q : Afr → Bool) (l : List Afr) (i : Nat) (hi : i < l.length) (k : Int), 0 ≤ k → q l[i] = true → ((idxI q l k = k + i) ↔ idxI q (l.take i) k < 0) := by
    intro q l
    induction l with
    | nil => intro i hi; simp at hi
    | cons x xs ih =>
      intro i hi k hk hq
      cases i with
      | zero => simp at hq; simp [idxI, hq]
      | succ i =>
        simp only [List.take_succ_cons, idxI]
        by_cases hx : q x = true
        · rw [if_pos hx, if_pos hx]; omega
        · rw [if_neg hx, if_neg hx]
          have := ih i (by simpa using hi) (k + 1) (by omega) (by simpa using hq)
          rw [← this]; omega
  have := key (fun y => y.han == (gt l (i : Int)).han) l i hi 0 (Int.le_refl 0) (by rw [gt_nat hi]; simp)
  rw [Bool.eq_iff_iff]; simp only [afsAt, beq_iff_eq, decide_eq_true_eq]; rw [← this]; omega
end Go.AE
end

section
/- Heaps of timers: joining, merging, taking out, in plain terms; a heap stays a heap. -/
namespace Go.AE
def lt2 (x y : Twg) : Prop := x.due < y.due ∨ (x.due = y.due ∧ x.seq < y.seq)
instance (x y : Twg) : Decidable (lt2 x y) := by unfold lt2; infer_instance
def ky (x : Twg) : Int × Int := (x.due, x.seq)
def apart (a b : List Twg) : Prop := ∀ x ∈ a, ∀ y ∈ b, x.seq ≠ y.seq
end Go.AE
end

section
/- What the conditions of a world answer. -/
namespace Go.AE

end Go.AE
end

section
/- What the reference asks of tasks, against the program. -/
namespace Go.AE
end Go.AE
end

section
/- What the reference asks of sights, against the program. -/
namespace Go.AE
end Go.AE
end

section
/- What a valid world gives; lists that are picked. -/
namespace Go.AE

end Go.AE
end

section
/- Abstract machine: names that are not yet given. -/
namespace Go.AE
def Fr (n : Nat) (h : Heap) : Prop := ∀ k, n ≤ k → h k = none
theorem Fr.upd {m id : Nat} {f : Heap} {e : Option Ent} (hi : id < m) (hf : Fr m f) : Fr m (upd f id e) := fun k hk => by
  rw [upd_at, if_neg (by omega)]; exact hf k hk
theorem Fr.mono {n m : Nat} {f : Heap} (h : Fr n f) (hl : n ≤ m) : Fr m f := fun k hk => h k (by omega)
theorem Fr.start {nx m : Nat} {h : Heap} (hnx : ∀ j, h j ≠ none → j < nx) (hl : nx ≤ m) : Fr m h := fun k hk => by
  cases hh : h k with
  | none => rfl
  | some e => have := hnx k (by rw [hh]; simp); omega
theorem Fr.at {n : Nat} {h : Heap} (hf : Fr n h) : ∀ k, h (n + k) = none := fun k => hf _ (by omega)
section
variable {C : Ctx}
def minS (C : Ctx) (n : Nxt) (d : Option Tmp) (x y : AV) (st : St) : Prop :=
  match x, y with
  | .int k m, .int _ z => runN C n (st.put d (.int k (if z < m then z else m)))
  | _, _ => False
@[simp] theorem run_min (d x y ts ty ps af n0 gd i os) (st : St) (k : Kont) :
    runS C n0 gd i (⟨d, .call ⟨.builtin .min, #[x, y], ts⟩, ty, ps, af, none⟩ :: os) st k = minS C ⟨n0, gd, i + 1, os, k⟩ d (st.ev x) (st.ev y) st := propext Iff.rfl
@[simp] theorem minS_int (n d k k' m z) (st : St) : minS C n d (.int k m) (.int k' z) st = runN C n (st.put d (.int k (if z < m then z else m))) := propext Iff.rfl
end
end Go.AE
end

section
/- Abstract machine: what the arguments read as. -/
namespace Go.AE
open Go.ChangeShapes Go.Deep

inductive Sh where
  | int (k : IntKind)
  | bool
  | str
  | slice (e : Sh)
  | nil
  | cons (s r : Sh)

def Sh.size : Sh → Nat
  | .nil => 0
  | .cons s r => s.size + r.size
  | _ => 1
def ShR (B : Nat) : Sh → List AV → Prop
  | .int k, l => ∃ n, l = [.int k n] ∧ (Lit.int k n).wf = true
  | .bool, l => ∃ b, l = [.bool b]
  | .str, l => ∃ s, l = [.str s] ∧ s.size ≤ B
  | .slice e, l => l = [.nil] ∨ ∃ xs, l = [.view true e.size xs] ∧ xs.length ≤ B ∧ ∀ c ∈ xs, ShR B e c
  | .nil, l => l = []
  | .cons s r, l => ∃ x y, l = x ++ y ∧ ShR B s x ∧ ShR B r y

theorem ShR.length {B : Nat} : ∀ {s : Sh} {l : List AV}, ShR B s l → l.length = s.size
  | .int k, l, ⟨n, h, _⟩ => by subst h; rfl
  | .bool, l, ⟨n, h⟩ => by subst h; rfl
  | .str, l, ⟨n, h, _⟩ => by subst h; rfl
  | .slice e, l, h => by rcases h with h | ⟨xs, h, _⟩ <;> subst h <;> rfl
  | .nil, l, h => by simp only [ShR] at h; subst h; rfl
  | .cons s r, l, ⟨x, y, h, h1, h2⟩ => by subst h; simp [Sh.size, h1.length, h2.length]

def fsOk (P : Program) (ok : TypeId → Sh → Bool) : Nat → List Field → Sh → Bool
  | _, [], .nil => true
  | off, f :: fs, .cons a b => f.offset == off && ok f.type a && P.cellsOf f.type == a.size && fsOk P ok (off + a.size) fs b
  | _, _, _ => false
section
variable {H : Type} {enc : TypeId × Value → H} {P : Program} {w : World} {base : Nat} {spare : Nat → Bool} {held : Bool} {ρ : Names} {I : Imm}

def VRl (ρ : Names) (I : Imm) (w : World) (l : List AV) (cs : List Value) : Prop := cs.length = l.length ∧ ∀ (i : Nat) a u, l[i]? = some a → cs[i]? = some u → VR ρ I w a u

theorem VRl.one {a : AV} {u : Value} (h : VR ρ I w a u) : VRl ρ I w [a] [u] := ⟨rfl, fun i x v hx hv => by
  cases i with
  | zero => simp at hx hv; subst hx; subst hv; exact h
  | succ => simp at hx⟩
theorem VRl.append {a b : List AV} {u v : List Value} (h1 : VRl ρ I w a u) (h2 : VRl ρ I w b v) : VRl ρ I w (a ++ b) (u ++ v) := by
  refine ⟨by simp [h1.1, h2.1], fun i x y hx hy => ?_⟩
  by_cases hi : i < a.length
  · rw [List.getElem?_append_left hi] at hx
    rw [List.getElem?_append_left (by rw [h1.1]; exact hi)] at hy
    exact h1.2 i x y hx hy
  · rw [List.getElem?_append_right (by omega)] at hx
    rw [List.getElem?_append_right (by rw [h1.1]; omega), h1.1] at hy
    exact h2.2 _ x y hx hy

structure Blk (blk : DataW H → Nat) : Prop where
  str : ∀ b, b.length ≤ blk (.lit (.string b))
  len : ∀ es sp, es.length ≤ blk (.slice es sp)
  elem : ∀ es sp, ∀ e ∈ es, blk e ≤ blk (.slice es sp)
  part : ∀ ps, ∀ e ∈ ps, blk e ≤ blk (.agg ps)

mutual
def abulk {H : Type} : DataW H → Nat
  | .lit (.string bytes) => bytes.length + 1
  | .lit _ => 1
  | .nil => 1
  | .ptr d => abulk d + 1
  | .slice elems spare => abulks elems + abulks spare + 1
  | .agg parts => abulks parts + 1
  | .iface _ d => abulk d + 1
  | .map _ => 1
  | .held _ => 1
def abulks {H : Type} : List (DataW H) → Nat
  | [] => 0
  | d :: r => abulk d + abulks r
end
end
end Go.AE
end

section
/- Abstract machine: a law's row. -/
namespace Go.AE
open Go.RowKit Go.ChangeAt

def topA : Sh → List AV → AV
  | .nil, l => .agg l
  | .cons .., l => .agg l
  | _, l => l.headD .dead

def Imm0 (w : World) : Imm := fun _ b => b < w.heap.size

section
variable {H : Type} {enc : TypeId × Value → H} {P : Program} {w : World} {base : Nat} {spare : Nat → Bool} {held : Bool} {ρ : Names} {I : Imm}

theorem VRl.head {a : AV} {l : List AV} {u : Value} {us : List Value} (h : VRl ρ I w (a :: l) (u :: us)) : VR ρ I w a u := h.2 0 a u rfl rfl

end

theorem law_calls {P : Program} {f : FuncId} {args : List AV} {W : World} {vs : Array Value} (hc : PC P f args (.bool true)) (hv : VRs (fun _ => none) (Imm0 W) W args vs) :
    Calls P f vs W fun e w' => e = .returned (.bool true) ∧ Below W.heap.size W w' := by
  have := hc (fun _ => none) 0 (fun r _ _ => r = .bool true) rfl
  refine (this.2 (fun _ => none) (Imm0 W) W vs (fun _ _ h => (by cases h)) ⟨fun _ _ h => (by cases h), fun _ _ _ h => (by cases h), fun _ _ _ _ _ _ _ h => (by cases h), fun _ _ _ _ _ h => (by cases h), fun _ _ h => h⟩ hv).mono ?_
  rintro e w' ⟨v, r, h', nx', ρ', I', rfl, rfl, hvr, H', E, _, _, _⟩
  cases hvr
  exact ⟨rfl, E.os, E.tape, E.output, E.size, fun k hk => E.frame k hk fun ⟨_, _, _, h, _⟩ => (by cases h)⟩

theorem vrs1 {ρ I w} {a : AV} {u : Value} (h : VR ρ I w a u) : VRs ρ I w [a] #[u] := ⟨rfl, fun i x v hx hv => by
  match i with
  | 0 => simp at hx hv; subst hx; subst hv; exact h
  | _ + 1 => simp at hx⟩
end Go.AE
end

section
/- Abstract machine: arguments of a law, as the program's data. -/
namespace Go.AE

def Up (x y : AV) : Prop := ∀ (ρ : Names) (I : Imm) (w : World) (u : Value), VR ρ I w x u → VR ρ I w y u
theorem Up.refl (x : AV) : Up x x := fun _ _ _ _ h => h
theorem Up.nil (p : Bool) (sz : Nat) : Up .nil (.view p sz []) := fun ρ I w u h => by cases h; exact .viewNil p sz none 0
def UpL (l l' : List AV) : Prop := l'.length = l.length ∧ ∀ (i : Nat) x y, l[i]? = some x → l'[i]? = some y → Up x y
theorem UpL.refl (l : List AV) : UpL l l := ⟨rfl, fun i x y hx hy => by rw [hx] at hy; cases hy; exact .refl _⟩
theorem UpL.one {x y : AV} (h : Up x y) : UpL [x] [y] := ⟨rfl, fun i a b ha hb => by
  cases i with
  | zero => simp at ha hb; subst ha; subst hb; exact h
  | succ i => simp at ha⟩
theorem UpL.append {a b c d : List AV} (h1 : UpL a c) (h2 : UpL b d) : UpL (a ++ b) (c ++ d) := by
  refine ⟨by simp [h1.1, h2.1], fun i x y hx hy => ?_⟩
  by_cases hi : i < a.length
  · rw [List.getElem?_append_left hi] at hx
    rw [List.getElem?_append_left (by rw [h1.1]; exact hi)] at hy
    exact h1.2 i x y hx hy
  · rw [List.getElem?_append_right (by omega)] at hx
    rw [List.getElem?_append_right (by rw [h1.1]; omega), h1.1] at hy
    exact h2.2 _ x y hx hy
theorem UpL.agg {a b : List AV} (h : UpL a b) : Up (.agg a) (.agg b) := fun ρ I w u hv => by
  cases hv with
  | agg _ vs h1 h2 =>
    refine .agg b vs (by rw [h1, h.1]) fun i y u hy hu => ?_
    have hi : i < a.length := by rw [← h.1]; exact (List.getElem?_eq_some_iff.1 hy).1
    exact h.2 i _ y (List.getElem?_eq_getElem hi) hy _ _ _ _ (h2 i _ u (List.getElem?_eq_getElem hi) hu)
theorem Up.view {p : Bool} {sz : Nat} {xs ys : List (List AV)} (hl : ys.length = xs.length) (hc : ∀ (i : Nat) c d, xs[i]? = some c → ys[i]? = some d → UpL c d) : Up (.view p sz xs) (.view p sz ys) := fun ρ I w u hv => by
  have back : ∀ {i j : Nat} {y : AV}, get2 ys i j = some y → ∃ x, get2 xs i j = some x ∧ Up x y := by
    intro i j y hy
    obtain ⟨d, hd, hj⟩ := get2_some hy
    have hi : i < xs.length := by rw [← hl]; exact (List.getElem?_eq_some_iff.1 hd).1
    have hx := List.getElem?_eq_getElem hi
    have hu := hc i _ d hx hd
    have hj' : j < (xs[i]).length := by rw [← hu.1]; exact (List.getElem?_eq_some_iff.1 hj).1
    exact ⟨(xs[i])[j], by simp [get2, hx], hu.2 j _ y (List.getElem?_eq_getElem hj') hj⟩
  generalize hz : AV.view p sz xs = z at hv
  cases hv <;> simp at hz
  · obtain ⟨rfl, rfl, rfl⟩ := hz
    obtain rfl : ys = [] := by simpa using hl
    exact .viewNil ..
  · obtain ⟨rfl, rfl, rfl⟩ := hz
    rename_i b off c h1 h2 h3 h4 h5 h6
    rw [← hl]
    refine .view p sz ys b off c h1 (by omega) (by omega) (fun i d hd => ?_) (fun i j y hy => ?_) (fun i j y u hy hu => ?_)
    · have hi : i < xs.length := by rw [← hl]; exact (List.getElem?_eq_some_iff.1 hd).1
      rw [(hc i _ d (List.getElem?_eq_getElem hi) hd).1]; exact h4 i _ (List.getElem?_eq_getElem hi)
    · obtain ⟨x, hx, _⟩ := back hy
      exact h5 i j x hx
    · obtain ⟨x, hx, hup⟩ := back hy
      exact hup _ _ _ _ (h6 i j x u hx hu)

def Rdr {α : Type} (sh : Sh) (c : α → List AV) (ok : Nat → α → Prop) : Prop := ∀ (B : Nat) (l : List AV), ShR B sh l → ∃ x, UpL l (c x) ∧ ok B x
def okT {α : Type} (B : Nat) (x : α) : Prop := True
theorem Rdr.int : Rdr (.int .i64) iv okT := fun B l h => by obtain ⟨n, rfl, _⟩ := h; exact ⟨n, UpL.refl _, trivial⟩
theorem Rdr.bool : Rdr .bool bv okT := fun B l h => by obtain ⟨n, rfl⟩ := h; exact ⟨n, UpL.refl _, trivial⟩
theorem Rdr.str : Rdr .str (fun s => [.str s]) (fun B (s : ByteArray) => s.size ≤ B) := fun B l h => by obtain ⟨n, rfl, h⟩ := h; exact ⟨n, UpL.refl _, h⟩
theorem Rdr.slice {α : Type} {e : Sh} {c : α → List AV} {ok : Nat → α → Prop} {sz : Nat} (hsz : e.size = sz) (h : Rdr e c ok) : Rdr (.slice e) (fun xs => [.view true sz (xs.map c)]) (fun B (xs : List α) => xs.length ≤ B ∧ ∀ x ∈ xs, ok B x) := fun B l hl => by
  subst hsz
  rcases hl with rfl | ⟨xs, rfl, hle, hx⟩
  · exact ⟨[], UpL.one (Up.nil _ _), by simp, by simp⟩
  · have : ∀ xs : List (List AV), (∀ c ∈ xs, ShR B e c) → ∃ ys : List α, ys.length = xs.length ∧ (∀ (i : Nat) a b, xs[i]? = some a → (ys.map c)[i]? = some b → UpL a b) ∧ ∀ y ∈ ys, ok B y := by
      intro xs
      induction xs with
      | nil => intro _; exact ⟨[], rfl, fun i a b h => by simp at h, by simp⟩
      | cons a xs ih =>
        intro hx
        obtain ⟨ys, h1, h2, h3⟩ := ih fun c hc => hx c (by simp [hc])
        obtain ⟨y, g1, g2⟩ := h B a (hx a (by simp))
        refine ⟨y :: ys, by simp [h1], fun i p q hp hq => ?_, fun z hz => ?_⟩
        · cases i with
          | zero => simp at hp hq; subst hp; subst hq; exact g1
          | succ i => exact h2 i p q (by simpa using hp) (by simpa using hq)
        · rcases List.mem_cons.1 hz with rfl | hz
          · exact g2
          · exact h3 z hz
    obtain ⟨ys, h1, h2, h3⟩ := this xs hx
    exact ⟨ys, UpL.one (Up.view (by simp [h1]) h2), by omega, h3⟩
theorem Rdr.nil : Rdr .nil (fun (_ : Unit) => []) okT := fun B l h => by simp only [ShR] at h; subst h; exact ⟨(), UpL.refl _, trivial⟩
theorem Rdr.cons {α β : Type} {s r : Sh} {c : α → List AV} {d : β → List AV} {ok1 : Nat → α → Prop} {ok2 : Nat → β → Prop} (h1 : Rdr s c ok1) (h2 : Rdr r d ok2) :
    Rdr (.cons s r) (fun p : α × β => c p.1 ++ d p.2) (fun B p => ok1 B p.1 ∧ ok2 B p.2) := fun B l hl => by
  obtain ⟨x, y, rfl, g1, g2⟩ := hl
  obtain ⟨a, u1, o1⟩ := h1 B x g1
  obtain ⟨b, u2, o2⟩ := h2 B y g2
  exact ⟨(a, b), u1.append u2, o1, o2⟩
theorem Rdr.map {α γ : Type} {s : Sh} {c : α → List AV} {ok : Nat → α → Prop} {c' : γ → List AV} {ok' : Nat → γ → Prop} (f : α → γ) (h : Rdr s c ok) (hc : ∀ x, c' (f x) = c x) (ho : ∀ B x, ok B x → ok' B (f x)) : Rdr s c' ok' := fun B l hl => by
  obtain ⟨x, u, o⟩ := h B l hl
  exact ⟨f x, by rw [hc]; exact u, ho B x o⟩

def i64S : Sh := .int .i64
def shInts : Nat → Sh → Sh
  | 0, r => r
  | n + 1, r => .cons i64S (shInts n r)
def shHan : Sh := shInts 2 .nil
def shInn : Sh := shInts 3 .nil
def shNod : Sh := shInts 5 .nil
def shEvt : Sh := shInts 4 .nil
def shTwg : Sh := shInts 3 .nil
def shTmr : Sh := shInts 4 (.cons .bool .nil)
def shAfr : Sh := .cons shHan (shInts 2 (.cons .bool .nil))
def shTsk : Sh := shInts 9 .nil
def shSgt : Sh := shInts 4 .nil
def shPik : Sh := shInts 2 .nil
def shOdr : Sh := shInts 5 .nil
def shGrp : Sh := shInts 3 (.cons (.slice i64S) (.cons i64S .nil))
def shSlt : Sh := .cons (.slice i64S) (.cons (.slice .bool) .nil)
def shSpr : Sh := .cons (.slice .bool) (.cons (.slice i64S) .nil)
def shTms : Sh := .cons (.slice shTwg) (.cons (.slice shTmr) (.cons i64S .nil))
def shAfs : Sh := .cons shSlt (.cons (.slice shAfr) .nil)
def shWld : Sh := .cons i64S (.cons (.slice (.slice shInn)) (.cons (.slice shNod) (.cons (.slice shEvt) (.cons shSpr (.cons shTms (.cons shAfs (.cons (.slice shTsk) (.cons (.slice shGrp) (.cons (.slice shSgt) (.cons (.slice i64S) (.cons (.slice i64S) .nil)))))))))))
end Go.AE
end

section
/- Abstract machine: arguments of a law whose numbers are in their range. -/
namespace Go.AE
end Go.AE
end

section
/- Bytes as a law's argument, and the bounds of what is drawn from them. -/
namespace Go.AE
def uv (n : Int) : List AV := [.int .u8 n]
def InU8 (n : Int) : Prop := 0 ≤ n ∧ n ≤ 255
theorem inU8_of {n : Int} (h : (Lit.int .u8 n).wf = true) : InU8 n := by
  have e1 : IntKind.min .u8 = 0 := by rfl
  have e2 : IntKind.max .u8 = 255 := by rfl
  simp only [Lit.wf, e1, e2, Bool.and_eq_true, decide_eq_true_eq] at h
  exact h
theorem Rdr.byte : Rdr (.int .u8) uv (fun _ n => InU8 n) := fun B l h => by obtain ⟨n, rfl, hw⟩ := h; exact ⟨n, UpL.refl _, inU8_of hw⟩
theorem rdBytes : Rdr (.slice (.int .u8)) (fun xs => [.view true 1 (xs.map uv)]) (fun B (xs : List Int) => xs.length ≤ B ∧ ∀ x ∈ xs, InU8 x) := Rdr.slice rfl Rdr.byte
theorem Rdr.argS {α : Type} {e : Sh} {c : α → List AV} {sz : Nat} {ok : Nat → List α → Prop} (h : Rdr (.slice e) (fun xs => [.view true sz (xs.map c)]) ok) {B : Nat} {l : List AV} (hl : ShR B (.slice e) l) : ∃ x : List α, Up (topA (.slice e) l) (.view true sz (x.map c)) ∧ ok B x := by
  obtain ⟨x, u, o⟩ := h B l hl
  refine ⟨x, ?_, o⟩
  have hlen : l.length = 1 := u.1.symm
  match l, hlen with
  | [a], _ => exact u.2 0 a _ rfl rfl
theorem u64_wrap (n : Int) : IntKind.u64.wrap n = n % 18446744073709551616 := by rfl
theorem band_in {a b : Int} (h0 : 0 ≤ b) (h1 : b < 18446744073709551616) : 0 ≤ bandA .u64 a b ∧ bandA .u64 a b ≤ b := by
  have hb : (BitVec.ofInt (IntKind.bits .u64) a &&& BitVec.ofInt (IntKind.bits .u64) b).toNat ≤ b.toNat := by
    rw [BitVec.toNat_and]
    refine Nat.le_trans Nat.and_le_right ?_
    rw [BitVec.toNat_ofInt]
    have : ((2 ^ IntKind.bits .u64 : Nat) : Int) = 18446744073709551616 := by rfl
    rw [this]; omega
  unfold bandA
  rw [u64_wrap]
  omega
def DiceO (h : Heap) (q : Nat) (xs : List Int) : Prop := ∃ (i : Nat) (H : Int), i ≤ xs.length ∧ h q = some (.obj [.view true 1 (xs.map uv), .int .i64 i, .int .u64 H])
def RollQ (xs : List Int) (h : Heap) (nx : Nat) (r : AV) (h' : Heap) (nx' : Nat) : Prop := ∃ q, nx ≤ q ∧ q < nx' ∧ r = .ptr q 0 ∧ DiceO h' q xs ∧ ∀ j, j < nx → h' j = h j
def BelQ (xs : List Int) (q : Nat) (n : Int) (h : Heap) (nx : Nat) (r : AV) (h' : Heap) (nx' : Nat) : Prop := ∃ v, 0 ≤ v ∧ v < n ∧ r = .int .i64 v ∧ DiceO h' q xs ∧ ∀ j, j < nx → j ≠ q → h' j = h j
theorem gt_byte {xs : List Int} (hx : ∀ x ∈ xs, InU8 x) {i : Nat} (hi : i < xs.length) : 0 ≤ gt xs (i : Int) ∧ gt xs (i : Int) ≤ 255 := hx _ (gt_mem (by omega) (by omega))
end Go.AE
end

section
/- Abstract machine: what the arguments read as, by their weights: every slice and string takes at most so many bytes. -/
namespace Go.AE
open Go.ChangeShapes Go.Deep Go.RowKit Go.ChangeAt

def shOkW (P : Program) : Nat → TypeId → Sh → Bool
  | 0, _, _ => false
  | n + 1, t, s =>
    match P.underlying t, s with
    | some (.int k), .int k' => decide (k = k')
    | some .bool, .bool => true
    | some .string, .str => true
    | some (.slice e), .slice s => shOkW P n e s && P.cellsOf e == s.size && (decide (0 < s.size) && decide (0 < P.bytesOf e))
    | some (.struct fs), s => fsOk P (shOkW P n) 0 fs.toList s && P.cellsOf t == s.size
    | _, _ => false

section
variable {H : Type} {enc : TypeId × Value → H} {P : Program} {w : World} {base : Nat} {spare : Nat → Bool} {held : Bool} {ρ : Names} {I : Imm}

def Light (P : Program) (t : TypeId) (d : DataW H) : Prop := (d.weights P t).all (· ≤ reachBytes) = true
theorem light_str {t : TypeId} {b : List UInt8} (h : Light (H := H) P t (.lit (.string b))) : b.length ≤ reachBytes := by
  simp only [Light, DataW.weights, List.all_cons, Bool.and_eq_true, decide_eq_true_eq] at h; exact h.1
theorem light_len {t e : TypeId} {es sp : List (DataW H)} (hu : P.underlying t = some (.slice e)) (hb : 0 < P.bytesOf e) (h : Light P t (.slice es sp)) : es.length ≤ reachBytes := by
  simp only [Light, DataW.weights, hu, List.all_cons, Bool.and_eq_true, decide_eq_true_eq] at h
  have h1 := h.1
  have h2 : (es.length + sp.length) * 1 ≤ (es.length + sp.length) * P.bytesOf e := Nat.mul_le_mul_left _ hb
  omega
theorem light_all {e : TypeId} : ∀ {es : List (DataW H)}, (DataW.weightsAll P e es).all (· ≤ reachBytes) = true → ∀ d ∈ es, Light P e d
  | [], _, d, hd => by simp at hd
  | x :: xs, h, d, hd => by
    simp only [DataW.weightsAll, List.all_append, Bool.and_eq_true] at h
    rcases List.mem_cons.1 hd with rfl | hd
    · exact h.1
    · exact light_all h.2 d hd
theorem light_elem {t e : TypeId} {es sp : List (DataW H)} (hu : P.underlying t = some (.slice e)) (h : Light P t (.slice es sp)) : ∀ d ∈ es, Light P e d := by
  simp only [Light, DataW.weights, hu, List.all_cons, List.all_append, Bool.and_eq_true] at h
  exact light_all h.2.1
theorem light_each : ∀ {ts : List TypeId} {ps : List (DataW H)}, (DataW.weightsEach P ts ps).all (· ≤ reachBytes) = true → ∀ (i : Nat) t d, ts[i]? = some t → ps[i]? = some d → Light P t d
  | [], _, _, i, t, d, h1, _ => by simp at h1
  | t0 :: ts, [], _, i, t, d, _, h2 => by simp at h2
  | t0 :: ts, p :: ps, h, i, t, d, h1, h2 => by
    simp only [DataW.weightsEach, List.all_append, Bool.and_eq_true] at h
    cases i with
    | zero => simp at h1 h2; subst h1; subst h2; exact h.1
    | succ i => exact light_each h.2 i t d (by simpa using h1) (by simpa using h2)
theorem light_part {t : TypeId} {fs : Array Field} {ps : List (DataW H)} (hu : P.underlying t = some (.struct fs)) (h : Light P t (.agg ps)) : ∀ (i : Nat) f d, fs.toList[i]? = some f → ps[i]? = some d → Light P f.type d := by
  simp only [Light, DataW.weights, hu] at h
  intro i f d hf hd
  exact light_each h i f.type d (by rw [List.getElem?_map, hf]; rfl) hd

theorem fields_vrW {ok : TypeId → Sh → Bool} {m : Nat} {cs : List Value}
    (ih : ∀ (s : Sh) (t : TypeId) (cs : List Value) (x : DataW H × List MemPlace), ok t s = true → DataW.trod enc P w base spare held m t cs = some x → Light P t x.1 → ∃ l, ShR reachBytes s l ∧ VRl ρ I w l cs) :
    ∀ (s : Sh) (fs : List Field) (off : Nat) (xs : List (DataW H × List MemPlace)), fsOk P ok off fs s = true → xs.length = fs.length →
      (∀ (i : Nat) (f : Field), fs[i]? = some f → DataW.trod enc P w base spare held m f.type ((cs.drop f.offset).take (P.cellsOf f.type)) = xs[i]?) →
      (∀ (i : Nat) f x, fs[i]? = some f → xs[i]? = some x → Light P f.type x.1) → off + s.size ≤ cs.length → ∃ l, ShR reachBytes s l ∧ VRl ρ I w l ((cs.drop off).take s.size) := by
  intro s
  induction s with
  | nil =>
    intro fs off xs hok hl hx hb hle
    exact ⟨[], rfl, by simp [Sh.size], fun i a u h => by simp at h⟩
  | cons a b _ ihb =>
    intro fs off xs hok hl hx hb hle
    cases fs with
    | nil => simp [fsOk] at hok
    | cons f fs =>
      cases xs with
      | nil => simp at hl
      | cons x xs =>
        simp only [fsOk, Bool.and_eq_true, beq_iff_eq] at hok
        obtain ⟨⟨⟨h1, h2⟩, h3⟩, h4⟩ := hok
        simp only [Sh.size] at hle
        have ht := hx 0 f rfl
        rw [h1, h3] at ht
        obtain ⟨la, ra, va⟩ := ih a f.type _ x h2 ht (hb 0 f x rfl rfl)
        obtain ⟨lb, rb, vb⟩ := ihb fs (off + a.size) xs h4 (by simpa using hl) (fun i g hg => by
          have := hx (i + 1) g (by simpa using hg)
          simpa using this) (fun i g y hg hy => hb (i + 1) g y (by simpa using hg) (by simpa using hy)) (by omega)
        refine ⟨la ++ lb, ⟨la, lb, rfl, ra, rb⟩, ?_⟩
        have e : (cs.drop off).take (Sh.cons a b).size = (cs.drop off).take a.size ++ (cs.drop (off + a.size)).take b.size := by
          simp only [Sh.size]
          rw [List.take_add, List.drop_drop]
        rw [e]
        exact va.append vb
  | _ =>
    intro fs off xs hok
    cases fs <;> simp [fsOk] at hok

theorem trod_vrW (hI : ∀ b, b < w.heap.size → I true b) : ∀ (n : Nat) (s : Sh) (t : TypeId) (fuel : Nat) (cs : List Value) (x : DataW H × List MemPlace),
    shOkW P n t s = true → DataW.trod enc P w base spare held fuel t cs = some x → Light P t x.1 → ∃ l, ShR reachBytes s l ∧ VRl ρ I w l cs := by
  have hB : reachBytes ≤ LIM := by decide
  intro n
  induction n with
  | zero => intro s t fuel cs x h; simp [shOkW] at h
  | succ n ih =>
    intro s t fuel cs x hs ht hb
    unfold shOkW at hs
    split at hs
    · rename_i k k' hu
      simp only [decide_eq_true_eq] at hs
      subst hs
      obtain ⟨z, rfl, rfl, hw⟩ := DataW.trod_int hu ht
      exact ⟨[.int k z], ⟨z, rfl, hw⟩, VRl.one (.int k z)⟩
    · rename_i hu
      obtain ⟨z, rfl, rfl⟩ := DataW.trod_bool hu ht
      exact ⟨[.bool z], ⟨z, rfl⟩, VRl.one (.bool z)⟩
    · rename_i hu
      obtain ⟨z, rfl, rfl, hw⟩ := DataW.trod_string hu ht
      refine ⟨[.str z], ⟨z, rfl, ?_⟩, VRl.one (.str z)⟩
      exact light_str (b := z.data.toList) hb
    · rename_i e se hu
      simp only [Bool.and_eq_true, beq_iff_eq, decide_eq_true_eq] at hs
      obtain ⟨⟨h1, h2⟩, h3, h3b⟩ := hs
      rcases open_slice hu ht with ⟨rfl, rfl⟩ | ⟨a, len, cap, m, n', D, Pl, rfl, hba, hl, hm, hmm, rfl, hx⟩
      · exact ⟨[.nil], .inl rfl, VRl.one .nil⟩
      · have hlm : len ≤ m := by rw [hmm]; split <;> omega
        have hlen : len ≤ reachBytes := by
          have := light_len hu h3b hb
          simp only [List.length_map, List.length_range] at this
          exact this
        rw [h2] at hx
        have hx' : ∀ i, i < len → ∃ l, ShR reachBytes se l ∧ ∃ cs', w.cells? base (a.add (i * se.size)) se.size = some cs' ∧ VRl ρ I w l cs' := by
          intro i hi
          obtain ⟨cs', g1, g2⟩ := hx i (by omega)
          obtain ⟨l, g3, g4⟩ := ih se e n' cs' _ h1 g2 (light_elem hu hb _ (List.mem_map.2 ⟨i, List.mem_range.2 hi, rfl⟩))
          exact ⟨l, g3, cs', g1, g4⟩
        obtain ⟨f, hf⟩ := choose_lt hx'
        refine ⟨[.view true se.size ((List.range len).map f)], .inr ⟨_, rfl, by simpa using hlen, fun c hc => ?_⟩, VRl.one ?_⟩
        · obtain ⟨i, hi, rfl⟩ := List.mem_map.1 hc
          exact (hf i (List.mem_range.1 hi)).1
        · cases len with
          | zero => exact .viewNil ..
          | succ len =>
            have hcell : ∀ i j, i < len + 1 → j < se.size → ∃ u, w.cell? ⟨a.block, a.off + i * se.size + j, none⟩ = some u ∧ ∀ y, (f i)[j]? = some y → VR ρ I w y u := by
              intro i j hi hj
              obtain ⟨_, cs', g1, g2⟩ := hf i hi
              obtain ⟨q1, q2, q3⟩ := World.cells?_some g1
              have q4 := q3 j hj
              rw [List.getElem?_eq_getElem (by omega)] at q4
              have hsp : ((a.add (i * se.size)).add j).spot = none := by
                cases hs : ((a.add (i * se.size)).add j).spot with
                | none => rfl
                | some _ =>
                  unfold World.cell? at q4
                  simp only [hs, Option.isSome_some, if_true] at q4
                  split at q4 <;> cases q4
              have hadd : (a.add (i * se.size)).add j = ⟨a.block, a.off + i * se.size + j, none⟩ := by
                rw [add_add] at hsp ⊢
                unfold Addr.add at hsp ⊢
                split
                · rename_i h0
                  rw [if_pos h0] at hsp
                  cases a; simp_all
                · simp [Nat.add_assoc]
              rw [hadd] at q4
              refine ⟨_, q4, fun y hy => g2.2 j y _ hy (List.getElem?_eq_getElem (by omega))⟩
            have hlt : a.block < w.heap.size := by
              obtain ⟨u, hu, _⟩ := hcell 0 0 (by omega) h3
              unfold World.cell? at hu
              split at hu
              · rename_i heq
                exact (Array.getElem?_eq_some_iff.1 heq).1
              · cases hu
            have hsp : a.spot = none := by
              obtain ⟨_, cs', g1, g2⟩ := hf 0 (by omega)
              obtain ⟨q1, q2, q3⟩ := World.cells?_some g1
              have q4 := q3 0 h3
              rw [List.getElem?_eq_getElem (by omega)] at q4
              simp only [Nat.zero_mul, Addr.add, if_true] at q4
              cases hs : a.spot with
              | none => rfl
              | some _ =>
                unfold World.cell? at q4
                simp only [hs, Option.isSome_some, if_true] at q4
                split at q4 <;> cases q4
            have ha : a = ⟨a.block, a.off, none⟩ := by cases a; simp_all
            have hl1 : ((List.range (len + 1)).map f).length = len + 1 := by simp
            have := VR.view (ρ := ρ) (I := I) (w := w) true se.size ((List.range (len + 1)).map f) a.block a.off cap (hI _ hlt) (by rw [hl1]; omega) (by rw [hl1]; exact hl) (fun i x hx => ?_) (fun i j x hx => ?_) (fun i j x u hx hu => ?_)
            · rw [hl1, ← ha] at this; exact this
            · rw [List.getElem?_map, Option.map_eq_some_iff] at hx
              obtain ⟨i', hi', rfl⟩ := hx
              have := (List.getElem?_eq_some_iff.1 hi')
              obtain ⟨q1, q2⟩ := this
              simp at q1 q2; subst q2
              exact (hf i (by omega)).1.length
            · obtain ⟨cells, q1, q2⟩ := get2_some hx
              rw [List.getElem?_map, Option.map_eq_some_iff] at q1
              obtain ⟨i', hi', rfl⟩ := q1
              obtain ⟨q3, q4⟩ := (List.getElem?_eq_some_iff.1 hi')
              simp at q3 q4; subst q4
              have hj : j < se.size := by rw [← (hf i (by omega)).1.length]; exact (List.getElem?_eq_some_iff.1 q2).1
              obtain ⟨u, hu, _⟩ := hcell i j (by omega) hj
              exact ⟨u, hu⟩
            · obtain ⟨cells, q1, q2⟩ := get2_some hx
              rw [List.getElem?_map, Option.map_eq_some_iff] at q1
              obtain ⟨i', hi', rfl⟩ := q1
              obtain ⟨q3, q4⟩ := (List.getElem?_eq_some_iff.1 hi')
              simp at q3 q4; subst q4
              have hj : j < se.size := by rw [← (hf i (by omega)).1.length]; exact (List.getElem?_eq_some_iff.1 q2).1
              obtain ⟨u', hu', h'⟩ := hcell i j (by omega) hj
              rw [hu'] at hu; cases hu
              exact h' x q2
    · rename_i fs hu

      simp only [Bool.and_eq_true, beq_iff_eq] at hs
      obtain ⟨h1, h2⟩ := hs
      obtain ⟨xs, m, rfl, rfl, hl, hlen, hf⟩ := DataW.trod_struct hu ht
      have := fields_vrW (enc := enc) (P := P) (w := w) (base := base) (spare := spare) (held := held) (ρ := ρ) (I := I) (ok := shOkW P n) (m := m) (cs := cs)
        (fun s t cs x => ih s t m cs x) _ fs.toList 0 xs h1 (by simpa using hlen) (fun i f hi => hf i f (by simpa using hi)) (fun i f x hf hx => light_part hu hb i f x.1 hf (by rw [List.getElem?_map, hx]; rfl)) (by omega)
      rw [List.drop_zero, List.take_of_length_le (by omega)] at this
      exact this
    · cases hs
theorem arg_vrW {n : Nat} {s : Sh} {t : TypeId} {v : Value} {d : DataW H} {ps : List MemPlace} {r : Reach} {b0 : Nat} {W : World}
    (hs : shOkW P n t s = true) (ht : DataW.Trod enc P W base spare held t v d ps) (hok : Value.okWide P W r b0 t v) (hb : Light P t d) :
    ∃ l, ShR reachBytes s l ∧ VR ρ (Imm0 W) W (topA s l) v := by
  obtain ⟨fuel, ht⟩ := ht
  obtain ⟨l, h1, h2⟩ := trod_vrW (ρ := ρ) (I := Imm0 W) (fun b hb => hb) n s t fuel _ _ hs ht hb
  refine ⟨l, h1, ?_⟩
  have hlen := h1.length
  cases n with
  | zero => simp [shOkW] at hs
  | succ n =>
    unfold shOkW at hs
    have one : ∀ (x : Value), v = x → (v.cells.toList = [x]) → l.length = 1 → VR ρ (Imm0 W) W (l.headD .dead) v := by
      intro x hx hc hl
      match l, hl with
      | [a], _ => rw [hc] at h2; rw [hx]; exact h2.head
    have agg : ∀ cs, v = .agg cs → VR ρ (Imm0 W) W (.agg l) v := by
      rintro cs rfl
      exact .agg l cs (by simpa [Value.cells] using h2.1) fun i x u hx hu => h2.2 i x u hx (by simpa [Value.cells] using hu)
    split at hs
    · rename_i k k' hu
      obtain ⟨z, rfl⟩ := WideShapes.okWide_int hu hok
      exact one _ rfl rfl hlen
    · rename_i hu
      have : ∃ z, v = .bool z := by
        simp only [Value.okWide, hu, Cell.okWide] at hok
        cases v <;> simp_all [Cell.ok]
      obtain ⟨z, rfl⟩ := this
      exact one _ rfl rfl hlen
    · rename_i hu
      obtain ⟨z, rfl⟩ := WideShapes.okWide_string hu hok
      exact one _ rfl rfl hlen
    · rename_i e se hu
      obtain ⟨a, len, cap, rfl⟩ := WideShapes.okWide_slice hu hok
      exact one _ rfl rfl hlen
    · rename_i s1 _ _ fs hu
      simp only [Bool.and_eq_true] at hs
      obtain ⟨h3, _⟩ := hs
      simp only [Value.okWide, hu] at hok
      obtain ⟨cs, rfl, _⟩ := hok
      cases s1 with
      | nil => exact agg _ rfl
      | cons a b => exact agg _ rfl
      | _ => cases hfs : fs.toList <;> simp [hfs, fsOk] at h3
    · cases hs
end

end Go.AE
end

section
/- Abstract machine: a world in owned rows. -/
namespace Go.AE

structure WI where
  top : Nat → Nat
  pg : List Nat
  gr : List Nat

def prgR (p : List Inn) (id : Nat) : List AV := [.ref id 3 0 p.length]
def grpR (g : Grp) (id : Nat) : List AV := [.int .i64 g.node, .int .i64 g.limit, .int .i64 g.active, .ref id 1 0 g.waits.length, .int .i64 g.first]
def wldR (X : WI) (w : Wld) : List AV :=
  [.int .i64 w.now, .ref (X.top 0) 1 0 w.progs.length, .ref (X.top 1) 5 0 w.tree.length, .ref (X.top 2) 4 0 w.events.length, .ref (X.top 3) 1 0 w.spread.told.length, .ref (X.top 4) 1 0 w.spread.work.length,
   .ref (X.top 5) 3 0 w.timers.heap.length, .ref (X.top 6) 5 0 w.timers.list.length, .int .i64 w.timers.next, .ref (X.top 7) 1 0 w.afters.slots.ages.length, .ref (X.top 8) 1 0 w.afters.slots.used.length, .ref (X.top 9) 5 0 w.afters.list.length,
   .ref (X.top 10) 9 0 w.tasks.length, .ref (X.top 11) 5 0 w.groups.length, .ref (X.top 12) 4 0 w.sights.length, .ref (X.top 13) 1 0 w.began.length, .ref (X.top 14) 1 0 w.rang.length]
def wRow (X : WI) (w : Wld) : Nat → Ent
  | 0 => .row 1 (List.zipWith prgR w.progs X.pg)
  | 1 => .row 5 (w.tree.map nodC)
  | 2 => .row 4 (w.events.map evtC)
  | 3 => .row 1 (w.spread.told.map bv)
  | 4 => .row 1 (w.spread.work.map iv)
  | 5 => .row 3 (w.timers.heap.map twgC)
  | 6 => .row 5 (w.timers.list.map tmrC)
  | 7 => .row 1 (w.afters.slots.ages.map iv)
  | 8 => .row 1 (w.afters.slots.used.map bv)
  | 9 => .row 5 (w.afters.list.map afrC)
  | 10 => .row 9 (w.tasks.map tskC)
  | 11 => .row 5 (List.zipWith grpR w.groups X.gr)
  | 12 => .row 4 (w.sights.map sgtC)
  | 13 => .row 1 (w.began.map iv)
  | _ => .row 1 (w.rang.map iv)
def WI.ids (X : WI) : List Nat := (List.range 15).map X.top ++ (X.pg ++ X.gr)
structure WV (h : Heap) (X : WI) (w : Wld) : Prop where
  top : ∀ k, k < 15 → h (X.top k) = some (wRow X w k)
  pl : X.pg.length = w.progs.length
  gl : X.gr.length = w.groups.length
  prog : ∀ (j : Nat) p id, w.progs[j]? = some p → X.pg[j]? = some id → h id = some (.row 3 (p.map innC))
  wait : ∀ (j : Nat) g id, w.groups[j]? = some g → X.gr[j]? = some id → h id = some (.row 1 (g.waits.map iv))
  nd : X.ids.Nodup

theorem WV.keep {h h' X w} (v : WV h X w) (hk : ∀ id ∈ X.ids, h' id = h id) : WV h' X w where
  top k hk' := by rw [hk _ (by simp only [WI.ids, List.mem_append, List.mem_map]; exact .inl ⟨k, by simpa using hk', rfl⟩)]; exact v.top k hk'
  pl := v.pl
  gl := v.gl
  prog j p id hp hi := by rw [hk id (by simp only [WI.ids, List.mem_append]; exact .inr (.inl (List.mem_of_getElem? hi)))]; exact v.prog j p id hp hi
  wait j g id hg hi := by rw [hk id (by simp only [WI.ids, List.mem_append]; exact .inr (.inr (List.mem_of_getElem? hi)))]; exact v.wait j g id hg hi
  nd := v.nd

abbrev FF : Nat → Bool := fun _ => false
end Go.AE
end

section
/- Abstract machine: contracts of functions that hand back a world in new rows. -/
namespace Go.AE
theorem fz_mapR {α : Type} {f : α → List AV} (hf : ∀ x, ∀ c ∈ f x, Fz c) (xs : List α) : ∀ i j x, get2 (xs.map f) i j = some x → Fz x := fun i j x hx => by
  obtain ⟨cs, h1, h2⟩ := get2_some hx
  obtain ⟨y, _, rfl⟩ := List.mem_map.1 (List.mem_of_getElem? h1)
  exact hf y x (List.mem_of_getElem? h2)

theorem ACall.ends {P f args h nx} {Q : AV → Heap → Nat → Prop} (hc : ACall P f args h nx Q) : ACall P f args h nx fun r h' nx' => Q r h' nx' ∧ nx ≤ nx' ∧ Fr nx' h' :=
  ⟨hc.1, fun ρ I w vs h1 h2 h3 => (hc.2 ρ I w vs h1 h2 h3).mono fun e w' ⟨v, r, h', nx', ρ', I', g1, hq, g3, g4, g5, g6, g7, g8⟩ =>
    ⟨v, r, h', nx', ρ', I', g1, ⟨hq, g7, fun k hk => by
      cases hh : h' k with
      | none => rfl
      | some e => obtain ⟨B, hB⟩ := (g4.ent hh).base; have := g8 _ B hB; omega⟩, g3, g4, g5, g6, g7, g8⟩⟩

def AC (P : Program) (f : FuncId) (args : List AV) (Pre : Heap → Nat → Prop) (Q : Heap → Nat → AV → Heap → Nat → Prop) : Prop :=
  ∀ (h : Heap) (nx : Nat), Pre h nx → ACall P f args h nx fun r h' nx' => Q h nx r h' nx' ∧ nx ≤ nx' ∧ Fr nx' h'

def RetQ (C : Ctx) (rs : List ResultVar) (Q : AV → Heap → Nat → Prop) : AX → St → Prop := RetK C rs Q
def finQ (Q : AV → Heap → Nat → Prop) (v : Option AV) (s : St) : Prop := ∃ r, v = some r ∧ Q r s.h s.nx
@[simp] theorem finQ_some (Q r) (s : St) : finQ Q (some r) s = Q r s.h s.nx := by simp [finQ]
@[simp] theorem retQ_ret (C rs Q) (s : St) : RetQ C rs Q .ret s = finQ Q (resultsA C s rs) s := propext Iff.rfl
@[simp] theorem retQ_normal (C rs Q) (s : St) : RetQ C rs Q .normal s = finQ Q (resultsA C s rs) s := propext Iff.rfl

theorem AC.of {C : Ctx} (ok : C.Ok) {f : FuncId} {fn : Func} {c : Code} {args : List AV} {Pre : Heap → Nat → Prop} {Q : Heap → Nat → AV → Heap → Nat → Prop} (hf : C.P.funcs[f]? = some fn) (hb : fn.body = some c)
    (hname : (fn.name == "runtime.NumGoroutine") = false) (hc : codeOk fn.ntmps c = true) (hargs : args.length ≤ fn.ntmps)
    (hw : ∀ (h : Heap) (nx : Nat), Fr nx h → (∀ j, h j ≠ none → j < nx) → Pre h nx → goC C c ⟨argT args, h, nx⟩ (.fin (RetQ C fn.results.toList (Q h nx)))) : AC C.P f args Pre Q := by
  intro h nx hp
  refine ⟨⟨fn, hf, hname, by simp [hb]⟩, fun ρ I w vs hnm H hv => ?_⟩
  have hlt : ∀ j, h j ≠ none → j < nx := by
    intro j hj
    cases he : h j with
    | none => exact absurd he hj
    | some e => obtain ⟨B, hB⟩ := (H.ent he).base; exact hnm j B hB
  exact (ACall.ends (ACall.of_body ok hf hb hname hc hargs (hw h nx (Fr.start hlt (Nat.le_refl _)) hlt hp))).2 ρ I w vs hnm H hv

theorem AC.o {C : Ctx} (ok : C.Ok) {f : FuncId} {fn : Func} {c : Code} {args : List AV} {Pre : Heap → Nat → Prop} {Q : Heap → Nat → AV → Heap → Nat → Prop} (hf : C.P.funcs[f]? = some fn) (hb : fn.body = some c)
    (hw : ∀ (h : Heap) (nx : Nat), Fr nx h → (∀ j, h j ≠ none → j < nx) → Pre h nx → goC C c ⟨argT args, h, nx⟩ (.fin (RetQ C fn.results.toList (Q h nx))))
    (hname : (fn.name == "runtime.NumGoroutine") = false := by rfl) (hc : codeOk fn.ntmps c = true := by kernel_rfl) (hargs : args.length ≤ fn.ntmps := by exact Nat.le_of_ble_eq_true rfl) : AC C.P f args Pre Q := AC.of ok hf hb hname hc hargs hw

theorem call_ac {C : Ctx} {n d g args} {Pre : Heap → Nat → Prop} {Q : Heap → Nat → AV → Heap → Nat → Prop} {st : St} (hc : AC C.P g args Pre Q) (hp : Pre st.h st.nx)
    (hr : ∀ r h' n', Q st.h st.nx r h' n' → st.nx ≤ n' → Fr n' h' → runN C n (({ st with h := h', nx := n' } : St).put d r)) : doCall C n d g args st :=
  (hc st.h st.nx hp).mono fun r h' n' ⟨h1, h2, h3⟩ => hr r h' n' h1 h2 h3

section
variable {α : Type} {f : α → Nat → List AV} {z : List AV} {xs : List α} {is : List Nat}
end
structure Subs {α : Type} (h : Heap) (sz : Nat) (c : α → List (List AV)) (xs : List α) (is : List Nat) (lo hi : Nat) : Prop where
  row : ∀ (j : Nat) x id, xs[j]? = some x → is[j]? = some id → h id = some (.row sz (c x))
  nd : is.Nodup
  lo : ∀ id ∈ is, lo ≤ id
  hi : ∀ id ∈ is, id < hi
theorem Subs.nil {α : Type} {h : Heap} {sz c lo hi} {xs : List α} : Subs h sz c xs [] lo hi := ⟨fun j x id _ h => by simp at h, List.nodup_nil, fun id h => by simp at h, fun id h => by simp at h⟩
theorem Subs.keep {α : Type} {h h' : Heap} {sz c lo hi lo' hi'} {xs : List α} {is : List Nat} (s : Subs h sz c xs is lo hi) (hk : ∀ i ∈ is, h' i = h i) (h1 : lo' ≤ lo) (h2 : hi ≤ hi') : Subs h' sz c xs is lo' hi' :=
  ⟨fun j x id hx hi => by rw [hk id (List.mem_of_getElem? hi)]; exact s.row j x id hx hi, s.nd, fun i hi => by have := s.lo i hi; omega, fun i hi => by have := s.hi i hi; omega⟩
theorem storeE_put {C : Ctx} {n d dT p idx sz xs vs cells} {st : St} (hp : st.h p = some (.row sz xs)) (hf : frz st.h vs = some (vs, st.h)) (hl : vs.length = dT.size) (hz : dT.size = sz) (hc : xs[idx]? = some cells) (hcl : cells.length = sz)
    (hr : runN C n ({ st with h := upd st.h p (some (.row sz (xs.set idx vs))) }.put d .dead)) : storeE C n d dT p idx 0 vs st := by
  refine storeE_row hf hp hl (by omega) hc ?_
  have e : splice cells 0 vs = vs := by simp [splice]; omega
  rw [e]; exact hr
def WI.ofL (L pg gr : List Nat) : WI := ⟨fun k => L.getD k 0, pg, gr⟩
theorem WI.ofL_ids {t0 t1 t2 t3 t4 t5 t6 t7 t8 t9 t10 t11 t12 t13 t14 : Nat} {pg gr : List Nat} : (WI.ofL [t0, t1, t2, t3, t4, t5, t6, t7, t8, t9, t10, t11, t12, t13, t14] pg gr).ids = [t0, t1, t2, t3, t4, t5, t6, t7, t8, t9, t10, t11, t12, t13, t14] ++ (pg ++ gr) := rfl
theorem WV.ofL {H : Heap} {w : Wld} {t0 t1 t2 t3 t4 t5 t6 t7 t8 t9 t10 t11 t12 t13 t14 : Nat} {pg gr : List Nat} {a b c d : Nat}
    (r0 : H t0 = some (.row 1 (List.zipWith prgR w.progs pg))) (r1 : H t1 = some (.row 5 (w.tree.map nodC))) (r2 : H t2 = some (.row 4 (w.events.map evtC))) (r3 : H t3 = some (.row 1 (w.spread.told.map bv))) (r4 : H t4 = some (.row 1 (w.spread.work.map iv)))
    (r5 : H t5 = some (.row 3 (w.timers.heap.map twgC))) (r6 : H t6 = some (.row 5 (w.timers.list.map tmrC))) (r7 : H t7 = some (.row 1 (w.afters.slots.ages.map iv))) (r8 : H t8 = some (.row 1 (w.afters.slots.used.map bv))) (r9 : H t9 = some (.row 5 (w.afters.list.map afrC)))
    (r10 : H t10 = some (.row 9 (w.tasks.map tskC))) (r11 : H t11 = some (.row 5 (List.zipWith grpR w.groups gr))) (r12 : H t12 = some (.row 4 (w.sights.map sgtC))) (r13 : H t13 = some (.row 1 (w.began.map iv))) (r14 : H t14 = some (.row 1 (w.rang.map iv)))
    (pl : pg.length = w.progs.length) (gl : gr.length = w.groups.length) (sp : Subs H 3 (fun x : List Inn => x.map innC) w.progs pg a b) (sg : Subs H 1 (fun x : Grp => x.waits.map iv) w.groups gr c d) (hbc : b ≤ c)
    (nt : [t0, t1, t2, t3, t4, t5, t6, t7, t8, t9, t10, t11, t12, t13, t14].Nodup) (np : ∀ t ∈ [t0, t1, t2, t3, t4, t5, t6, t7, t8, t9, t10, t11, t12, t13, t14], ¬ (a ≤ t ∧ t < b) ∧ ¬ (c ≤ t ∧ t < d)) :
    WV H (WI.ofL [t0, t1, t2, t3, t4, t5, t6, t7, t8, t9, t10, t11, t12, t13, t14] pg gr) w where
  top k hk := by
    match k, hk with
    | 0, _ => exact r0
    | 1, _ => exact r1
    | 2, _ => exact r2
    | 3, _ => exact r3
    | 4, _ => exact r4
    | 5, _ => exact r5
    | 6, _ => exact r6
    | 7, _ => exact r7
    | 8, _ => exact r8
    | 9, _ => exact r9
    | 10, _ => exact r10
    | 11, _ => exact r11
    | 12, _ => exact r12
    | 13, _ => exact r13
    | 14, _ => exact r14
    | _ + 15, hk => omega
  pl := pl
  gl := gl
  prog j p id hp hi := sp.row j p id hp hi
  wait j g id hg hi := sg.row j g id hg hi
  nd := by
    rw [WI.ofL_ids, List.nodup_append]
    refine ⟨nt, ?_, fun x hx y hy => ?_⟩
    · rw [List.nodup_append]
      exact ⟨sp.nd, sg.nd, fun x hx y hy => by have := sp.hi x hx; have := sg.lo y hy; omega⟩
    · have := np x hx
      rcases List.mem_append.1 hy with hy | hy
      · have := sp.lo y hy
        have := sp.hi y hy
        omega
      · have := sg.lo y hy
        have := sg.hi y hy
        omega
end Go.AE
end

section
/- Abstract machine: rows that are marked from their beginning on, field by field. -/
namespace Go.AE
def markL {α : Type} (mk : Int → α) (sz : Nat) (k : Int) (n : Nat) : List α := (List.range n).map fun (j : Nat) => mk (k + (sz : Int) * (j : Int))
section
variable {α : Type} {f : α → List AV} {mk : Int → α} {sz : Nat} {k : Int} {xs : List α} {i : Nat}
@[simp] theorem markL_len {n : Nat} : (markL mk sz k n).length = n := by simp [markL]
end
end Go.AE
end

section
/- Abstract machine: programs and groups that are marked, in rows that hold the names of rows. -/
namespace Go.AE
@[simp] theorem lsum_nil {α : Type} (f : α → Nat) : lsum f [] = 0 := rfl
theorem Subs.set {α : Type} {h h' : Heap} {sz c lo hi} {xs : List α} {is : List Nat} {i id : Nat} {x : α} (s : Subs h sz c xs is lo hi) (hid : is[i]? = some id) (hn : h' id = some (.row sz (c x))) (hk : ∀ j ∈ is, j ≠ id → h' j = h j) : Subs h' sz c (xs.set i x) is lo hi where
  row j y jd hy hj := by
    by_cases e : j = i
    · subst e
      rw [hid] at hj; cases hj
      by_cases hlt : j < xs.length
      · rw [List.getElem?_set_self hlt] at hy; cases hy; exact hn
      · rw [List.getElem?_eq_none (by simpa using hlt)] at hy; cases hy
    · rw [List.getElem?_set_ne (by omega)] at hy
      have hne : jd ≠ id := by
        intro e2
        subst e2
        have h1 := (List.getElem?_eq_some_iff.1 hid)
        have h2 := (List.getElem?_eq_some_iff.1 hj)
        obtain ⟨a1, a2⟩ := h1
        obtain ⟨b1, b2⟩ := h2
        have key := List.pairwise_iff_getElem.1 s.nd
        rcases Nat.lt_or_gt_of_ne e with hlt | hlt
        · exact key j i b1 a1 hlt (b2.trans a2.symm)
        · exact key i j a1 b1 hlt (a2.trans b2.symm)
      rw [hk jd (List.mem_of_getElem? hj) hne]
      exact s.row j y jd hy hj
  nd := s.nd
  lo := s.lo
  hi := s.hi
end Go.AE
end

section
/- Abstract machine: one row of a world changes. -/
namespace Go.AE
end Go.AE
end

section
/- Abstract machine: a world of which some lists change. -/
namespace Go.AE
theorem lt15 {k : Nat} (h : k < 15) : k = 0 ∨ k = 1 ∨ k = 2 ∨ k = 3 ∨ k = 4 ∨ k = 5 ∨ k = 6 ∨ k = 7 ∨ k = 8 ∨ k = 9 ∨ k = 10 ∨ k = 11 ∨ k = 12 ∨ k = 13 ∨ k = 14 := by omega
section
variable {h h' : Heap} {X : WI} {w : Wld}
end
theorem WV.lt {h : Heap} {X : WI} {w : Wld} {n : Nat} (v : WV h X w) (hn : ∀ j, h j ≠ none → j < n) : ∀ j ∈ X.ids, j < n := by
  intro j hj
  apply hn
  simp only [WI.ids, List.mem_append, List.mem_map, List.mem_range] at hj
  rcases hj with ⟨k, hk, rfl⟩ | hj | hj
  · rw [v.top k hk]; simp
  · obtain ⟨m, hm, rfl⟩ := List.getElem_of_mem hj
    rw [v.prog m (w.progs[m]'(by have := v.pl; omega)) X.pg[m] (List.getElem?_eq_getElem (by have := v.pl; omega)) (List.getElem?_eq_getElem hm)]; simp
  · obtain ⟨m, hm, rfl⟩ := List.getElem_of_mem hj
    rw [v.wait m (w.groups[m]'(by have := v.gl; omega)) X.gr[m] (List.getElem?_eq_getElem (by have := v.gl; omega)) (List.getElem?_eq_getElem hm)]; simp
end Go.AE
end

section
/- Abstract machine: what a callee leaves behind is forgotten; a callee that makes a world and reads its arguments through views. -/
namespace Go.AE
theorem Ext.sub {h : Heap} {ρ : Names} {I : Imm} {w : World} {h' g : Heap} {ρ' : Names} {I' : Imm} {w' : World} (E : Ext h ρ I w h' ρ' I' w') (hs : ∀ id e, g id = some e → h' id = some e) : Ext h ρ I w g ρ' I' w' :=
  ⟨E.rho, E.imm, E.bor, E.immN, fun b ⟨id, e, B, h1, h2, h3⟩ => E.own b ⟨id, e, B, hs _ _ h1, h2, h3⟩, E.os, E.tape, E.output, E.size, E.frame⟩
theorem ACall.sub {P f args h nx} {Q : AV → Heap → Nat → Prop} (hc : ACall P f args h nx fun r h' nx' => ∃ g : Heap, (∀ id e, g id = some e → h' id = some e) ∧ Q r g nx') : ACall P f args h nx Q :=
  ⟨hc.1, fun ρ I w vs h1 h2 h3 => (hc.2 ρ I w vs h1 h2 h3).mono fun e w' ⟨v, r, h', nx', ρ', I', g1, ⟨g, hg, hq⟩, g3, g4, g5, g6, g7, g8⟩ => ⟨v, r, g, nx', ρ', I', g1, hq, g3, g4.sub hg, g5.sub hg, g6, g7, g8⟩⟩

inductive NV : AV → AV → Prop
  | same (x) : NV x x
  | nil (p sz) : NV .nil (.view p sz [])
  | agg (cs ds : List AV) : ds.length = cs.length → (∀ (i : Nat) x y, cs[i]? = some x → ds[i]? = some y → NV x y) → NV (.agg cs) (.agg ds)
  | tup (cs ds : List AV) : ds.length = cs.length → (∀ (i : Nat) x y, cs[i]? = some x → ds[i]? = some y → NV x y) → NV (.tup cs) (.tup ds)
theorem NV.vr {ρ : Names} {I : Imm} {w : World} {x y : AV} {u : Value} (hn : NV x y) : VR ρ I w x u → VR ρ I w y u := by
  induction hn generalizing u with
  | same x => exact id
  | nil p sz => intro hv; rw [hv.nil_inv]; exact .viewNil ..
  | agg cs ds hl hc ih =>
    intro hv
    cases hv with
    | agg _ vs h1 h2 =>
      refine .agg _ vs (by omega) fun i y u hy hu => ?_
      have hi := (List.getElem?_eq_some_iff.1 hy).1
      have hx := List.getElem?_eq_getElem (l := cs) (i := i) (by omega)
      exact ih i _ y hx hy (h2 i _ u hx hu)
  | tup cs ds hl hc ih =>
    intro hv
    cases hv with
    | tup _ vs h1 h2 =>
      refine .tup _ vs (by omega) fun i y u hy hu => ?_
      have hi := (List.getElem?_eq_some_iff.1 hy).1
      have hx := List.getElem?_eq_getElem (l := cs) (i := i) (by omega)
      exact ih i _ y hx hy (h2 i _ u hx hu)
inductive NVs : List AV → List AV → Prop
  | nil : NVs [] []
  | cons {x y xs ys} : NV x y → NVs xs ys → NVs (x :: xs) (y :: ys)
theorem NVs.len {xs ys : List AV} (b : NVs xs ys) : ys.length = xs.length := by
  induction b with
  | nil => rfl
  | cons _ _ ih => simp [ih]
theorem NVs.get {xs ys : List AV} (b : NVs xs ys) : ∀ (i : Nat) x y, xs[i]? = some x → ys[i]? = some y → NV x y := by
  induction b with
  | nil => intro i x y h; simp at h
  | cons hb _ ih =>
    intro i x y hx hy
    cases i with
    | zero => simp at hx hy; subst hx; subst hy; exact hb
    | succ i => exact ih i x y (by simpa using hx) (by simpa using hy)
theorem NV.aggs {cs ds : List AV} (b : NVs cs ds) : NV (.agg cs) (.agg ds) := .agg _ _ b.len b.get
theorem NV.tups {cs ds : List AV} (b : NVs cs ds) : NV (.tup cs) (.tup ds) := .tup _ _ b.len b.get
theorem PC.nv {P f args r r'} (hc : PC P f args r) (hn : NV r r') : PC P f args r' := by
  intro h nx Q hQ
  have := hc h nx (fun r0 h0 n0 => r0 = r ∧ h0 = h ∧ n0 = nx) ⟨rfl, rfl, rfl⟩
  exact ⟨this.1, fun ρ I w vs h1 h2 h3 => (this.2 ρ I w vs h1 h2 h3).mono fun e w' ⟨v, r0, h', nx', ρ', I', g1, ⟨e1, e2, e3⟩, g3, g4, g5, g6, g7, g8⟩ => by
    subst e1 e2 e3
    exact ⟨v, r', _, _, ρ', I', g1, hQ, hn.vr g3, g4, g5, g6, g7, g8⟩⟩
@[simp] theorem take_len_map {α β : Type} {f : α → β} {xs : List α} : (xs.map f).take xs.length = xs.map f := List.take_of_length_le (by simp)
theorem free_of {h : Heap} {nx : Nat} (hnx : ∀ j, h j ≠ none → j < nx) (k : Nat) : h (nx + k) = none := by
  cases he : h (nx + k) with
  | none => rfl
  | some e => have := hnx (nx + k) (by rw [he]; simp); omega

theorem WV.ex {h : Heap} {X : WI} {w : Wld} (v : WV h X w) : ∀ id ∈ X.ids, h id ≠ none := by
  intro id hid
  simp only [WI.ids, List.mem_append, List.mem_map, List.mem_range] at hid
  rcases hid with ⟨k, hk, rfl⟩ | hj | hj
  · rw [v.top k hk]; simp
  · obtain ⟨m, hm, rfl⟩ := List.getElem_of_mem hj
    rw [v.prog m (w.progs[m]'(by have := v.pl; omega)) X.pg[m] (List.getElem?_eq_getElem (by have := v.pl; omega)) (List.getElem?_eq_getElem hm)]; simp
  · obtain ⟨m, hm, rfl⟩ := List.getElem_of_mem hj
    rw [v.wait m (w.groups[m]'(by have := v.gl; omega)) X.gr[m] (List.getElem?_eq_getElem (by have := v.gl; omega)) (List.getElem?_eq_getElem hm)]; simp

def WC (P : Program) (f : FuncId) (args : List AV) (rr : WI → AV) (w : Wld) : Prop :=
  ∀ (h : Heap) (nx : Nat), ACall P f args h nx fun r h' nx' => ∃ X : WI, r = rr X ∧ WV h' X w ∧ (∀ id ∈ X.ids, nx ≤ id ∧ id < nx') ∧ nx ≤ nx' ∧ ∀ j, j ∉ X.ids → h' j = h j
def MkQ (rr : WI → AV) (w : Wld) (h : Heap) (nx : Nat) (r : AV) (h' : Heap) (nx' : Nat) : Prop := KeepB nx h' h ∧ ∃ X : WI, r = rr X ∧ WV h' X w ∧ ∀ id ∈ X.ids, nx ≤ id ∧ id < nx'
theorem WC.of {P f args} {rr : WI → AV} {w : Wld} (hc : AC P f args (fun _ _ => True) (MkQ rr w)) : WC P f args rr w := by
  intro h nx
  refine ⟨(hc h nx trivial).1, fun ρ I w0 vs hnm H hv => ?_⟩
  have hlt : ∀ j, h j ≠ none → j < nx := by
    intro j hj
    cases he : h j with
    | none => exact absurd he hj
    | some e => obtain ⟨B, hB⟩ := (H.ent he).base; exact hnm j B hB
  refine (ACall.sub ((hc h nx trivial).mono ?_)).2 ρ I w0 vs hnm H hv
  rintro r h' nx' ⟨⟨hk, X, rfl, hX, hids⟩, hle, _⟩
  have hin : ∀ j ∈ X.ids, (if j < nx ∨ j ∈ X.ids then h' j else none) = h' j := fun j hj => if_pos (.inr hj)
  refine ⟨fun j => if j < nx ∨ j ∈ X.ids then h' j else none, fun id e he => ?_, X, rfl, hX.keep hin, hids, hle, fun j hj => ?_⟩
  · dsimp only at he
    split at he
    · exact he
    · cases he
  · dsimp only
    by_cases hj2 : j < nx
    · rw [if_pos (.inl hj2)]; exact hk j hj2
    · rw [if_neg (by simp [hj2, hj])]
      cases he : h j with
      | none => rfl
      | some e => exact absurd (hlt j (by rw [he]; simp)) hj2
section
variable {C : Ctx}
end
end Go.AE
end

section
/- Abstract machine: a world that is nothing, in a result of several values, seen as a world in empty rows. -/
namespace Go.AE
inductive Gt (Q : AV → Heap → Nat → Prop) : AV → Heap → Nat → Prop
  | done {r h nx} : Q r h nx → Gt Q r h nx
  | nil {cells rest h nx i sz} : cells[i]? = some .nil → 0 < sz → Gt Q (.tup (.agg (cells.set i (.ref nx sz 0 0)) :: rest)) (upd h nx (some (.row sz []))) (nx + 1) → Gt Q (.tup (.agg cells :: rest)) h nx
def zeroC : List AV := [.int .i64 0, .nil, .nil, .nil, .nil, .nil, .nil, .nil, .int .i64 0, .nil, .nil, .nil, .nil, .nil, .nil, .nil, .nil]
theorem Gt.zero {Q : AV → Heap → Nat → Prop} {rest : List AV} {h : Heap} {nx : Nat} (hq : ∀ (X : WI) (h' : Heap), WV h' X default → (∀ id ∈ X.ids, nx ≤ id ∧ id < nx + 15) → (∀ j, j < nx → h' j = h j) → Q (.tup (.agg (wldR X default) :: rest)) h' (nx + 15)) :
    Gt Q (.tup (.agg zeroC :: rest)) h nx := by
  unfold zeroC
  refine .nil (i := 1) (sz := 1) rfl (by decide) ?_
  simp only [List.set_cons_succ, List.set_cons_zero, Nat.add_assoc, Nat.reduceAdd]
  refine .nil (i := 2) (sz := 5) rfl (by decide) ?_
  simp only [List.set_cons_succ, List.set_cons_zero, Nat.add_assoc, Nat.reduceAdd]
  refine .nil (i := 3) (sz := 4) rfl (by decide) ?_
  simp only [List.set_cons_succ, List.set_cons_zero, Nat.add_assoc, Nat.reduceAdd]
  refine .nil (i := 4) (sz := 1) rfl (by decide) ?_
  simp only [List.set_cons_succ, List.set_cons_zero, Nat.add_assoc, Nat.reduceAdd]
  refine .nil (i := 5) (sz := 1) rfl (by decide) ?_
  simp only [List.set_cons_succ, List.set_cons_zero, Nat.add_assoc, Nat.reduceAdd]
  refine .nil (i := 6) (sz := 3) rfl (by decide) ?_
  simp only [List.set_cons_succ, List.set_cons_zero, Nat.add_assoc, Nat.reduceAdd]
  refine .nil (i := 7) (sz := 5) rfl (by decide) ?_
  simp only [List.set_cons_succ, List.set_cons_zero, Nat.add_assoc, Nat.reduceAdd]
  refine .nil (i := 9) (sz := 1) rfl (by decide) ?_
  simp only [List.set_cons_succ, List.set_cons_zero, Nat.add_assoc, Nat.reduceAdd]
  refine .nil (i := 10) (sz := 1) rfl (by decide) ?_
  simp only [List.set_cons_succ, List.set_cons_zero, Nat.add_assoc, Nat.reduceAdd]
  refine .nil (i := 11) (sz := 5) rfl (by decide) ?_
  simp only [List.set_cons_succ, List.set_cons_zero, Nat.add_assoc, Nat.reduceAdd]
  refine .nil (i := 12) (sz := 9) rfl (by decide) ?_
  simp only [List.set_cons_succ, List.set_cons_zero, Nat.add_assoc, Nat.reduceAdd]
  refine .nil (i := 13) (sz := 5) rfl (by decide) ?_
  simp only [List.set_cons_succ, List.set_cons_zero, Nat.add_assoc, Nat.reduceAdd]
  refine .nil (i := 14) (sz := 4) rfl (by decide) ?_
  simp only [List.set_cons_succ, List.set_cons_zero, Nat.add_assoc, Nat.reduceAdd]
  refine .nil (i := 15) (sz := 1) rfl (by decide) ?_
  simp only [List.set_cons_succ, List.set_cons_zero, Nat.add_assoc, Nat.reduceAdd]
  refine .nil (i := 16) (sz := 1) rfl (by decide) ?_
  simp only [List.set_cons_succ, List.set_cons_zero, Nat.add_assoc, Nat.reduceAdd]
  refine .done (hq (WI.ofL [nx, nx + 1, nx + 2, nx + 3, nx + 4, nx + 5, nx + 6, nx + 7, nx + 8, nx + 9, nx + 10, nx + 11, nx + 12, nx + 13, nx + 14] [] []) _
    (WV.ofL (a := 0) (b := 0) (c := 0) (d := 0) ?_ ?_ ?_ ?_ ?_ ?_ ?_ ?_ ?_ ?_ ?_ ?_ ?_ ?_ ?_ rfl rfl .nil .nil (Nat.le_refl _) ?_ (fun t ht => by omega)) (fun id hid => ?_) (fun j hj => ?_))
  case refine_16 =>
    simp only [List.nodup_cons, List.mem_cons, List.not_mem_nil, or_false, not_or, List.nodup_nil, and_true, not_false_eq_true]
    omega
  case refine_17 =>
    rw [WI.ofL_ids] at hid
    simp only [List.append_nil, List.mem_cons, List.not_mem_nil, or_false] at hid
    omega
  case refine_18 =>
    repeat rw [upd_ne _ _ _ _ (by omega)]
  all_goals
    first
    | exact upd_same ..
    | (repeat (first | exact upd_same .. | rw [upd_ne _ _ _ _ (by omega)]))
end Go.AE
end

section
/- Abstract machine: a request's own part, which changes a world that lies in an object of its caller. -/
namespace Go.AE
theorem WV.obj {h : Heap} {X : WI} {w : Wld} (v : WV h X w) {p : Nat} {cs : List AV} (hp : h p = some (Ent.obj cs)) : p ∉ X.ids := fun hm => by
  simp only [WI.ids, List.mem_append, List.mem_map, List.mem_range] at hm
  rcases hm with ⟨k, hk, rfl⟩ | hj | hj
  · rw [v.top k hk] at hp
    rcases lt15 hk with rfl | rfl | rfl | rfl | rfl | rfl | rfl | rfl | rfl | rfl | rfl | rfl | rfl | rfl | rfl <;> cases hp
  · obtain ⟨m, hm, rfl⟩ := List.getElem_of_mem hj
    rw [v.prog m (w.progs[m]'(by have := v.pl; omega)) X.pg[m] (List.getElem?_eq_getElem (by have := v.pl; omega)) (List.getElem?_eq_getElem hm)] at hp; cases hp
  · obtain ⟨m, hm, rfl⟩ := List.getElem_of_mem hj
    rw [v.wait m (w.groups[m]'(by have := v.gl; omega)) X.gr[m] (List.getElem?_eq_getElem (by have := v.gl; omega)) (List.getElem?_eq_getElem hm)] at hp; cases hp
end Go.AE
end

section
/- Abstract machine: rows of rows are made immutable. -/
namespace Go.AE
inductive Fro (h : Heap) : AV → AV → Prop
  | same (x) : Fro h x x
  | ref (id sz off len xs ys) : h id = some (.row sz xs) → off + len ≤ xs.length → ys.length = len → (∀ (i : Nat) c d, ((xs.drop off).take len)[i]? = some c → ys[i]? = some d → d.length = c.length) →
      (∀ (i j : Nat) x y, get2 ((xs.drop off).take len) i j = some x → get2 ys i j = some y → Fro h x y) → Fro h (.ref id sz off len) (.view true sz ys)
  | agg (cells cells') : cells'.length = cells.length → (∀ (i : Nat) x y, cells[i]? = some x → cells'[i]? = some y → Fro h x y) → Fro h (.agg cells) (.agg cells')
  | tup (cells cells') : cells'.length = cells.length → (∀ (i : Nat) x y, cells[i]? = some x → cells'[i]? = some y → Fro h x y) → Fro h (.tup cells) (.tup cells')
def ImmT (h : Heap) (ρ : Names) (I : Imm) : Imm := fun p b => I p b ∨ (p = true ∧ Owns h ρ b)
section
variable {ρ : Names} {I : Imm} {w : World}
theorem Fro.vr {h : Heap} {x y : AV} {u : Value} (H : HRel ρ I w h) (hb : Fro h x y) : VR ρ I w x u → VR ρ (ImmT h ρ I) w y u := by
  have up : ∀ {x u}, VR ρ I w x u → VR ρ (ImmT h ρ I) w x u := fun hv => hv.mono (fun _ _ h => h) (fun _ _ h => .inl h) fun _ _ _ => rfl
  induction hb generalizing u with
  | same x => exact up
  | ref id sz off len xs ys hid hle hlen hw hc ih =>
    intro hv
    obtain ⟨B, h1, h2, h3, h4, h5, h6⟩ := H.row id sz xs hid
    have hlen0 : ((xs.drop off).take len).length = len := by simp; omega
    have back : ∀ {i j : Nat} {y}, get2 ys i j = some y → ∃ x, get2 ((xs.drop off).take len) i j = some x := by
      intro i j y hy
      obtain ⟨d, q1, q2⟩ := get2_some hy
      have hi : i < ((xs.drop off).take len).length := by rw [hlen0, ← hlen]; exact (List.getElem?_eq_some_iff.1 q1).1
      have hc0 := List.getElem?_eq_getElem hi
      have hj : j < (((xs.drop off).take len)[i]).length := by rw [← hw i _ d hc0 q1]; exact (List.getElem?_eq_some_iff.1 q2).1
      exact ⟨_, by simp only [get2, hc0, Option.bind_some]; exact List.getElem?_eq_getElem hj⟩
    generalize hz : AV.ref id sz off len = z at hv
    cases hv <;> simp at hz
    · obtain ⟨rfl, rfl, rfl, rfl⟩ := hz
      obtain rfl : ys = [] := List.eq_nil_of_length_eq_zero hlen
      exact .viewNil ..
    · rename_i b c B' q2 q1 q3 q4 q5 q6
      obtain ⟨rfl, rfl, rfl, rfl⟩ := hz
      have q7 : ρ id = some B' := by assumption
      have q8 : B'.blk = some b := by assumption
      rw [h1] at q7; cases q7
      clear q1 q2
      have q2 := q8
      rcases h6 with ⟨g1, g2, g3⟩ | ⟨b', cur, ty, g1, g2, g3, g4, g5, g6⟩
      · rw [g1] at q2; cases q2
      · rw [g1] at q2; cases q2
        have hown : Owns h ρ b := ⟨id, _, B, hid, h1, g1⟩
        have hv := VR.view (ρ := ρ) (I := ImmT h ρ I) (w := w) true sz ys b (B.off + off * sz) c (.inr ⟨rfl, hown⟩) (by omega) (by omega) (fun i d hd => ?_) (fun i j y hy => ?_) (fun i j y u hy hu => ?_)
        · rw [hlen] at hv
          exact h2 ▸ hv
        · have hi : i < ((xs.drop off).take len).length := by rw [hlen0, ← hlen]; exact (List.getElem?_eq_some_iff.1 hd).1
          have hc0 := List.getElem?_eq_getElem hi
          rw [hw i _ d hc0 hd]
          have hx := hc0
          rw [List.getElem?_take] at hx
          split at hx
          · rw [List.getElem?_drop] at hx; exact h5 _ _ hx
          · cases hx
        · obtain ⟨x, hx⟩ := back hy
          obtain ⟨hg, hi⟩ := get2_drop_take hx
          obtain ⟨cells, q1, q2⟩ := get2_some hg
          have hj : j < sz := by rw [← h5 _ _ q1]; exact (List.getElem?_eq_some_iff.1 q2).1
          rw [cell_of_row w b _ cur ty _ g2]
          have e1 : off + i + 1 ≤ B.cap := by have := (List.getElem?_eq_some_iff.1 q1).1; omega
          have e2 := Nat.mul_le_mul_right sz e1
          rw [Nat.add_mul, Nat.add_mul, Nat.one_mul] at e2
          have : B.off + off * sz + i * sz + j < cur.size := by omega
          exact ⟨_, Array.getElem?_eq_getElem this⟩
        · obtain ⟨x, hx⟩ := back hy
          obtain ⟨hg, hi⟩ := get2_drop_take hx
          rw [cell_of_row w b _ cur ty _ g2] at hu
          refine ih i j x y hx hy (g6 (off + i) j x u hg ?_)
          rw [← hu, Nat.add_mul, ← Nat.add_assoc]
  | agg cells cells' hl hc ih =>
    intro hv
    cases hv with
    | agg _ vs q1 q2 =>
      refine .agg cells' vs (by rw [q1, hl]) fun i y u hy hu => ?_
      have hi := (List.getElem?_eq_some_iff.1 hy).1
      rw [hl] at hi
      exact ih i _ y (List.getElem?_eq_getElem hi) hy (q2 i _ u (List.getElem?_eq_getElem hi) hu)
  | tup cells cells' hl hc ih =>
    intro hv
    cases hv with
    | tup _ vs q1 q2 =>
      refine .tup cells' vs (by rw [q1, hl]) fun i y u hy hu => ?_
      have hi := (List.getElem?_eq_some_iff.1 hy).1
      rw [hl] at hi
      exact ih i _ y (List.getElem?_eq_getElem hi) hy (q2 i _ u (List.getElem?_eq_getElem hi) hu)
end
theorem ACall.freezeD {P f args h nx} {Q : AV → Heap → Nat → Prop} (hc : ACall P f args h nx fun r h' nx' => ∃ (g k : Heap) (r' : AV), (∀ id e, g id = some e → h' id = some e) ∧ (∀ id e, k id = some e → h' id = some e) ∧ (∀ id, g id = none ∨ k id = none) ∧ Fro g r r' ∧ Q r' k nx') : ACall P f args h nx Q :=
  ⟨hc.1, fun ρ I w vs h1 h2 h3 => (hc.2 ρ I w vs h1 h2 h3).mono fun e w' ⟨v, r, h', nx', ρ', I', g1, ⟨g, k, r', hg, hk, hd, hfr, hq⟩, H, hv, E, g6, g7, g8⟩ => by
    have hgO : ∀ b, Owns g ρ' b → Owns h' ρ' b := fun b ⟨id, e, B, a1, a2, a3⟩ => ⟨id, e, B, hg _ _ a1, a2, a3⟩
    have Hk := HRel.sub hv hk
    have grow : ∀ {x u}, VR ρ' I' w' x u → VR ρ' (ImmT g ρ' I') w' x u := fun hv => hv.mono (fun _ _ h => h) (fun _ _ h => .inl h) fun _ _ _ => rfl
    refine ⟨v, r', k, nx', ρ', ImmT g ρ' I', g1, hq, hfr.vr (HRel.sub hv hg) H, ⟨fun id c he => ?_, fun id s x he => ?_, Hk.sep, fun i e B b p hi hB hb hI => ?_, fun p b hb => ?_⟩, ⟨E.rho, fun p b hb => .inl (E.imm p b hb), fun b hb => ?_, fun b hb => ?_, fun b ⟨id, e, B, a1, a2, a3⟩ => E.own b ⟨id, e, B, hk _ _ a1, a2, a3⟩, E.os, E.tape, E.output, E.size, E.frame⟩, g6, g7, g8⟩
    · obtain ⟨B, b, cur, ty, a1, a2, a3, a4, a5⟩ := Hk.obj id c he
      exact ⟨B, b, cur, ty, a1, a2, a3, a4, fun i x u hx hu => grow (a5 i x u hx hu)⟩
    · obtain ⟨B, a1, a2, a3, a4, a5, a6⟩ := Hk.row id s x he
      refine ⟨B, a1, a2, a3, a4, a5, ?_⟩
      rcases a6 with a6 | ⟨b, cur, ty, k1, k2, k3, k4, k5, k6⟩
      · exact .inl a6
      · exact .inr ⟨b, cur, ty, k1, k2, k3, k4, k5, fun i j x u hx hu => grow (k6 i j x u hx hu)⟩
    · rcases hI with hI | ⟨_, id, e2, B2, a1, a2, a3⟩
      · exact Hk.imm i e B b p hi hB hb hI
      · have hne : i ≠ id := fun e3 => by
          subst e3
          rcases hd i with q | q
          · rw [q] at a1; cases a1
          · rw [q] at hi; cases hi
        exact hv.sep i id e e2 B B2 b (hk _ _ hi) (hg _ _ a1) hne hB a2 hb a3
    · rcases hb with hb | ⟨_, hb⟩
      · exact hv.immlt p b hb
      · exact Owns.lt hv (hgO b hb)
    · rcases hb with hb | ⟨hb, _⟩
      · exact E.bor b hb
      · cases hb
    · rcases hb with hb | ⟨_, hb⟩
      · exact E.immN b hb
      · exact .inr (E.own b (hgO b hb))⟩
theorem WC.pc {P : Program} {f : FuncId} {args : List AV} {rr : WI → AV} {w : Wld} {r' : AV} (hc : WC P f args rr w) (hz : Fz r') (hv : ∀ (g : Heap) (X : WI), WV g X w → Fro g (rr X) r') : PC P f args r' := by
  intro h nx Q hQ
  refine ⟨(hc h nx).1, fun ρ I w0 vs hnm H hvs => ?_⟩
  have hlt : ∀ j, h j ≠ none → j < nx := by
    intro j hj
    cases he : h j with
    | none => exact absurd he hj
    | some e => obtain ⟨B, hB⟩ := (H.ent he).base; exact hnm j B hB
  have := ACall.pureF (R := fun r => r = r') (Q := Q) (ACall.freezeD ((hc h nx).mono (Q' := fun r h' nx' => ∃ (g k : Heap) (r0 : AV), (∀ id e, g id = some e → h' id = some e) ∧ (∀ id e, k id = some e → h' id = some e) ∧ (∀ id, g id = none ∨ k id = none) ∧ Fro g r r0 ∧ ((∀ id e, h id = some e → k id = some e) ∧ Fz r0 ∧ r0 = r')) ?_)) (fun r' hr => hr ▸ hQ)
  · exact this.2 ρ I w0 vs hnm H hvs
  · rintro r h' nx' ⟨X, rfl, hX, hids, hle, hfr⟩
    refine ⟨fun j => if j ∈ X.ids then h' j else none, fun j => if j ∈ X.ids then none else h' j, r', fun id e he => ?_, fun id e he => ?_, fun id => ?_, hv _ X (hX.keep fun id hid => if_pos hid), fun id e he => ?_, hz, rfl⟩
    · dsimp only at he; split at he
      · exact he
      · cases he
    · dsimp only at he; split at he
      · cases he
      · exact he
    · by_cases hid : id ∈ X.ids
      · right; exact if_pos hid
      · left; exact if_neg hid
    · have hn : id ∉ X.ids := fun hm => by
        have := hids id hm
        have := hlt id (by rw [he]; simp)
        omega
      dsimp only
      rw [if_neg hn, hfr id hn]; exact he
inductive Fros (h : Heap) : List AV → List AV → Prop
  | nil : Fros h [] []
  | cons {x y xs ys} : Fro h x y → Fros h xs ys → Fros h (x :: xs) (y :: ys)
theorem Fros.len {h : Heap} {xs ys : List AV} (b : Fros h xs ys) : ys.length = xs.length := by
  induction b with
  | nil => rfl
  | cons _ _ ih => simp [ih]
theorem Fros.get {h : Heap} {xs ys : List AV} (b : Fros h xs ys) : ∀ (i : Nat) x y, xs[i]? = some x → ys[i]? = some y → Fro h x y := by
  induction b with
  | nil => intro i x y h; simp at h
  | cons hb _ ih =>
    intro i x y hx hy
    cases i with
    | zero => simp at hx hy; subst hx; subst hy; exact hb
    | succ i => exact ih i x y (by simpa using hx) (by simpa using hy)
theorem Fro.aggs {h : Heap} {cs cs' : List AV} (b : Fros h cs cs') : Fro h (.agg cs) (.agg cs') := .agg _ _ b.len b.get
theorem Fro.tups {h : Heap} {cs cs' : List AV} (b : Fros h cs cs') : Fro h (.tup cs) (.tup cs') := .tup _ _ b.len b.get
theorem Fro.ref0 {h : Heap} {id sz len : Nat} {xs : List (List AV)} (hid : h id = some (.row sz xs)) (hl : len = xs.length) : Fro h (.ref id sz 0 len) (.view true sz xs) := by
  subst hl
  refine .ref id sz 0 xs.length xs xs hid (by omega) rfl (fun i c d hc hd => ?_) (fun i j x y hx hy => ?_)
  · simp at hc
    rw [hc] at hd; cases hd; rfl
  · simp at hx
    rw [hx] at hy; cases hy; exact .same _
end Go.AE
end

section
/- The clock of a world goes on: what a request for it makes of the world, in plain terms. -/
namespace Go.AE
end Go.AE
end

section
/- Functions that are started: what becomes of slots and lists, in plain terms. -/
namespace Go.AE
def canDrop (s : Slt) (x : Han) : Bool := sltHolds s x && x.age != 1000000
def dropS (s : Slt) (x : Han) : Slt := ⟨s.ages.set x.slot.toNat (x.age + 1), s.used.set x.slot.toNat false⟩
def dropIf (s : Slt) (x : Han) : Slt := if canDrop s x = true then dropS s x else s
def goA (a : Afs) (i : Nat) : Afs := ⟨dropS a.slots (gt a.list (i : Int)).han, a.list.eraseIdx i⟩
def isGo (a : Afs) (x : Afr) : Bool := x.queued && canDrop a.slots x.han
def goAt (a : Afs) : Option Nat := a.list.findIdx? (isGo a)
inductive Gr (Q : AV → Heap → Nat → Prop) : AV → Heap → Nat → Prop
  | done {r h nx} : Q r h nx → Gr Q r h nx
  | trim {id sz off len xs h nx} : h id = some (.row sz xs) → off + len ≤ xs.length → Gr Q (.ref nx sz 0 len) (upd (upd h id none) nx (some (.row sz ((xs.drop off).take len)))) (nx + 1) → Gr Q (.ref id sz off len) h nx
theorem app_mid {C : Ctx} {id n d t e sz r off len x ws ys} {st : St} (he : elemOf C t = some e) (hs : e.size = sz) (hp : 0 < sz) (hb : e.bytes ≤ 128) (hrow : st.h r = some (.row sz ws)) (hx : rowOf st.h sz x = some ys)
    (hle : off + len ≤ ws.length) (hl : len + ys.length ≤ MLIM) (ho : ys.all (fun cs => cs.all AV.one) = true)
    (hr : runN C n ((({ st with h := upd st.h r none } : St).new id (.row sz ((ws.drop off).take len ++ ys ++ ws.drop (off + len + ys.length)))).put d (.ref id sz 0 (len + ys.length)))) :
    appS C id n d t (.ref r sz off len) x st := by
  subst hs
  exact app_ref he hp hb hrow hx hle hl ho hr
theorem goAt_some {a : Afs} {i : Nat} (hi : i < a.list.length) (h0 : ∀ k : Nat, k < i → isGo a (gt a.list (k : Int)) = false) (h1 : isGo a (gt a.list (i : Int)) = true) : goAt a = some i := by
  unfold goAt
  rw [List.findIdx?_eq_some_iff_getElem]
  refine ⟨hi, ?_, fun j hj => ?_⟩
  · rw [gt_nat hi] at h1; exact h1
  · have := h0 j hj
    rw [gt_nat (by omega)] at this
    rw [this]; decide
theorem goAt_none {a : Afs} (h0 : ∀ k : Nat, k < a.list.length → isGo a (gt a.list (k : Int)) = false) : goAt a = none := by
  unfold goAt
  rw [List.findIdx?_eq_none_iff]
  intro x hx
  obtain ⟨k, hk, rfl⟩ := List.getElem_of_mem hx
  have := h0 k hk
  rw [gt_nat hk] at this
  exact this
theorem cntB_le {α : Type} (q : α → Bool) (l : List α) : cntB q l ≤ l.length := by
  simp only [cntB]; exact Int.ofNat_le.2 List.countP_le_length
theorem afs_facts {a : Afs} (h : afsOk a = true) : a.slots.used.length = a.slots.ages.length ∧ a.list.length ≤ 64 ∧
    ∀ k : Nat, k < a.list.length → canDrop a.slots (gt a.list (k : Int)).han = true → 0 ≤ (gt a.list (k : Int)).han.age ∧ (gt a.list (k : Int)).han.age < 1000000 := by
  simp only [afsOk, sltOk, Bool.and_eq_true, beq_iff_eq, Bool.not_eq_true', inR, decide_eq_true_eq] at h
  obtain ⟨⟨⟨h1, h2⟩, h3, h4⟩, h5, h6⟩ := h
  have h7 := cntB_le id a.slots.used
  refine ⟨by omega, by omega, fun k hk hc => ?_⟩
  simp only [canDrop, sltHolds, Bool.and_eq_true, beq_iff_eq, isIn, inR, decide_eq_true_eq, bne_iff_ne] at hc
  obtain ⟨⟨⟨c1, c2⟩, c3, c4⟩, c5⟩ := hc
  rw [List.any_eq_false] at h4
  have hm : gt a.slots.ages (gt a.list (k : Int)).han.slot ∈ a.slots.ages := gt_mem c1 (by omega)
  have := h4 _ hm
  simp at this
  rw [← c4] at c5 ⊢
  omega
theorem allI_get {α : Type} [Inhabited α] {q : Int → α → Bool} : ∀ {l : List α} {k : Int}, allI q l k = true → ∀ i : Nat, i < l.length → q (k + i) (gt l (i : Int)) = true
  | x :: xs, k, h, 0, _ => by
    simp only [allI, Bool.and_eq_true] at h
    rw [gt_nat (by simp)]; simpa using h.1
  | x :: xs, k, h, i + 1, hi => by
    simp only [allI, Bool.and_eq_true] at h
    have := allI_get h.2 i (by simpa using hi)
    rw [gt_nat (by simpa using hi)] at this
    rw [gt_nat hi]
    simp only [List.getElem_cons_succ]
    rw [show k + ((i + 1 : Nat) : Int) = k + 1 + (i : Int) by omega]
    exact this
theorem afs_held {a : Afs} (h : afsOk a = true) : ∀ k : Nat, k < a.list.length → sltHolds a.slots (gt a.list (k : Int)).han = true := fun k hk => by
  simp only [afsOk, Bool.and_eq_true] at h
  have := allI_get h.2.2 k hk
  simp only [Bool.and_eq_true] at this
  exact this.2.1
def PdQ (r' : AV) (h : Heap) (nx : Nat) (r : AV) (h' : Heap) (nx' : Nat) : Prop := ∃ g : Heap, (∀ id e, g id = some e → h' id = some e ∧ nx ≤ id) ∧ Fro g r r' ∧ KeepB nx h' h
theorem AC.pcD {P : Program} {f : FuncId} {args : List AV} {r' : AV} (hz : Fz r') (hc : AC P f args (fun _ _ => True) (PdQ r')) : PC P f args r' := by
  intro h nx Q hQ
  refine ⟨(hc h nx trivial).1, fun ρ I w0 vs hnm H hvs => ?_⟩
  have hlt : ∀ j, h j ≠ none → j < nx := by
    intro j hj
    cases he : h j with
    | none => exact absurd he hj
    | some e => obtain ⟨B, hB⟩ := (H.ent he).base; exact hnm j B hB
  have := ACall.pureF (R := fun r => r = r') (Q := Q) (ACall.freezeD ((hc h nx trivial).mono (Q' := fun r h' nx' => ∃ (g k : Heap) (r0 : AV), (∀ id e, g id = some e → h' id = some e) ∧ (∀ id e, k id = some e → h' id = some e) ∧ (∀ id, g id = none ∨ k id = none) ∧ Fro g r r0 ∧ ((∀ id e, h id = some e → k id = some e) ∧ Fz r0 ∧ r0 = r')) ?_)) (fun r' hr => hr ▸ hQ)
  · exact this.2 ρ I w0 vs hnm H hvs
  · rintro r h' nx' ⟨⟨g, hg, hfr, hk⟩, _, _⟩
    refine ⟨g, fun j => if j < nx then h' j else none, r', fun id e he => (hg id e he).1, fun id e he => ?_, fun id => ?_, hfr, fun id e he => ?_, hz, rfl⟩
    · dsimp only at he; split at he
      · exact he
      · cases he
    · by_cases hid : id < nx
      · left
        cases hgi : g id with
        | none => rfl
        | some e => have := (hg id e hgi).2; omega
      · right; exact if_neg hid
    · have hid := hlt id (by rw [he]; simp)
      dsimp only
      rw [if_pos hid, hk id hid]; exact he
end Go.AE
end

section
/- A valid world stays valid when a function is started. -/
namespace Go.AE
theorem allI_mk {α : Type} [Inhabited α] {q : Int → α → Bool} : ∀ {l : List α} {k : Int}, (∀ i : Nat, i < l.length → q (k + i) (gt l (i : Int)) = true) → allI q l k = true
  | [], k, _ => rfl
  | x :: xs, k, h => by
    simp only [allI, Bool.and_eq_true]
    refine ⟨by have := h 0 (by simp); rw [gt_nat (by simp)] at this; simpa using this, allI_mk fun i hi => ?_⟩
    have := h (i + 1) (by simpa using hi)
    rw [gt_nat (by simpa using hi)] at this
    rw [gt_nat hi]
    simp only [List.getElem_cons_succ] at this
    rw [show k + ((i + 1 : Nat) : Int) = k + 1 + (i : Int) by omega] at this
    exact this
theorem afsOk_iff {a : Afs} : afsOk a = true ↔ sltOk a.slots = true ∧ (a.list.length : Int) = cntB id a.slots.used ∧ (∀ x ∈ a.list, isAfter x.node x.fn = true ∧ sltHolds a.slots x.han = true) ∧ a.list.Pairwise (fun x y => x.han ≠ y.han) := by
  have key : ∀ i : Nat, i < a.list.length → ((afsAt a.list (gt a.list (i : Int)).han == (i : Int)) = true ↔ ∀ x ∈ a.list.take i, x.han ≠ (gt a.list (i : Int)).han) := fun i hi => by
    rw [afsAt_here hi, decide_eq_true_eq, idxI_none _ _ 0 (Int.le_refl 0)]
    constructor
    · intro h x hx e
      have := h x hx
      simp [e] at this
    · intro h x hx
      have := h x hx
      simpa using this
  constructor
  · intro h
    simp only [afsOk, Bool.and_eq_true, beq_iff_eq] at h
    obtain ⟨h1, h2, h3⟩ := h
    refine ⟨h1, h2, fun x hx => ?_, ?_⟩
    · obtain ⟨i, hi, rfl⟩ := List.getElem_of_mem hx
      have := allI_get h3 i hi
      rw [gt_nat hi] at this
      simp only [Bool.and_eq_true] at this
      exact ⟨this.1, this.2.1⟩
    · rw [List.pairwise_iff_getElem]
      intro i j hi hj hij
      have := allI_get h3 j hj
      simp only [Bool.and_eq_true, Int.zero_add] at this
      have h4 := (key j hj).1 this.2.2 a.list[i] (List.mem_take_iff_getElem.2 ⟨i, by omega, rfl⟩)
      rw [gt_nat hj] at h4
      exact h4
  · rintro ⟨h1, h2, h3, h4⟩
    simp only [afsOk, Bool.and_eq_true, beq_iff_eq]
    refine ⟨h1, h2, allI_mk fun i hi => ?_⟩
    simp only [Bool.and_eq_true, Int.zero_add]
    have hm : gt a.list (i : Int) ∈ a.list := by rw [gt_nat hi]; exact List.getElem_mem hi
    refine ⟨(h3 _ hm).1, (h3 _ hm).2, (key i hi).2 fun x hx => ?_⟩
    obtain ⟨j, hj, rfl⟩ := List.mem_take_iff_getElem.1 hx
    rw [gt_nat hi]
    exact List.pairwise_iff_getElem.1 h4 j i (by omega) hi (by omega)
theorem afsOk_go {a : Afs} {i : Nat} (h : afsOk a = true) (hi : i < a.list.length) (hc : canDrop a.slots (gt a.list (i : Int)).han = true) : afsOk (goA a i) = true := by
  obtain ⟨f1, f2, f3⟩ := afs_facts h
  have hr := f3 i hi hc
  rw [afsOk_iff] at h ⊢
  obtain ⟨h1, h2, h3, h4⟩ := h
  have hx : gt a.list (i : Int) = a.list[i] := gt_nat hi
  rw [hx] at hc hr
  have hh : sltHolds a.slots a.list[i].han = true := (h3 _ (List.getElem_mem hi)).2
  have hp := List.pairwise_iff_getElem.1 h4
  have hg : goA a i = ⟨dropS a.slots a.list[i].han, a.list.eraseIdx i⟩ := by unfold goA; rw [hx]
  rw [hg]
  generalize hxx : a.list[i] = x at *
  have hh0 := hh
  simp only [sltHolds, Bool.and_eq_true, isIn, inR, decide_eq_true_eq, beq_iff_eq] at hh
  obtain ⟨⟨c1, c2⟩, c3, c4⟩ := hh
  have n1 : x.han.slot.toNat < a.slots.ages.length := by omega
  have n2 : x.han.slot.toNat < a.slots.used.length := by omega
  refine ⟨?_, ?_, fun y hy => ?_, List.Pairwise.sublist (List.eraseIdx_sublist _ _) h4⟩
  · simp only [sltOk, dropS, Bool.and_eq_true, List.length_set, beq_iff_eq, Bool.not_eq_true', List.any_eq_false] at h1 ⊢
    refine ⟨h1.1, h1.2.1, fun z hz => ?_⟩
    rcases List.mem_or_eq_of_mem_set hz with q | q
    · exact h1.2.2 z q
    · subst q; simp [inR]; omega
  · have e : (a.list.eraseIdx i).length = a.list.length - 1 := by rw [List.length_eraseIdx, if_pos hi]
    have hu : a.slots.used[x.han.slot.toNat] = true := by
      have := gt_some c1 (show x.han.slot < (a.slots.used.length : Int) by omega)
      rw [c3, List.getElem?_eq_getElem n2] at this
      exact Option.some.inj this
    have e2 : (a.slots.used.set x.han.slot.toNat false).countP id = a.slots.used.countP id - 1 := by
      rw [List.countP_set n2]; simp [hu]
    simp only [dropS, cntB, e2] at h2 ⊢
    rw [e]; omega
  · obtain ⟨j, hj, hji, rfl⟩ := List.mem_eraseIdx_iff_getElem.1 hy
    have hm := h3 _ (List.getElem_mem hj)
    refine ⟨hm.1, ?_⟩
    have hne : a.list[j].han ≠ x.han := by
      rw [← hxx]
      rcases Nat.lt_or_gt_of_ne hji with q | q
      · exact hp j i hj hi q
      · exact fun e => hp i j hi hj q e.symm
    have hd := hm.2
    simp only [sltHolds, Bool.and_eq_true, isIn, inR, decide_eq_true_eq, beq_iff_eq] at hd
    obtain ⟨⟨d1, d2⟩, d3, d4⟩ := hd
    have hs : a.list[j].han.slot ≠ x.han.slot := fun e => hne (by
      rw [e] at d4
      have ha : a.list[j].han.age = x.han.age := by rw [← d4, ← c4]
      cases hq : a.list[j].han
      cases hx2 : x.han
      simp_all)
    have hs2 : x.han.slot.toNat ≠ a.list[j].han.slot.toNat := by omega
    have g1 : gt (a.slots.used.set x.han.slot.toNat false) a.list[j].han.slot = gt a.slots.used a.list[j].han.slot := by
      have p1 := gt_some d1 (show a.list[j].han.slot < ((a.slots.used.set x.han.slot.toNat false).length : Int) by simp; omega)
      have p2 := gt_some d1 (show a.list[j].han.slot < (a.slots.used.length : Int) by omega)
      rw [List.getElem?_set_ne hs2, p2] at p1
      exact (Option.some.inj p1).symm
    have g2 : gt (a.slots.ages.set x.han.slot.toNat (x.han.age + 1)) a.list[j].han.slot = gt a.slots.ages a.list[j].han.slot := by
      have p1 := gt_some d1 (show a.list[j].han.slot < ((a.slots.ages.set x.han.slot.toNat (x.han.age + 1)).length : Int) by simp; omega)
      have p2 := gt_some d1 (show a.list[j].han.slot < (a.slots.ages.length : Int) by omega)
      rw [List.getElem?_set_ne hs2, p2] at p1
      exact (Option.some.inj p1).symm
    simp only [sltHolds, dropS, Bool.and_eq_true, isIn, inR, decide_eq_true_eq, beq_iff_eq, List.length_set, g1, g2]
    exact ⟨⟨d1, d2⟩, d3, d4⟩
end Go.AE
end

section
/- Abstract machine: a caller may make its own rows immutable ahead of a call. -/
namespace Go.AE
section
variable {ρ : Names} {I : Imm} {w : World} {h g k : Heap}
end
theorem AC.frz {P : Program} {f : FuncId} {args : List AV} {Pre : Heap → Nat → Prop} {Q : Heap → Nat → AV → Heap → Nat → Prop} (hc : AC P f args Pre (fun h nx r h' nx' => ∃ r' h'', frzR h' r = some (r', h'') ∧ Q h nx r' h'' nx')) : AC P f args Pre Q := fun h nx hp =>
  (((hc h nx hp).mono fun _ _ _ hq => hq.1).freeze).ends
end Go.AE
end

section
/- Functions that are registered, in an object of their own. -/
namespace Go.AE
def afsR (i j k : Nat) (a : Afs) : List AV := [.ref i 1 0 a.slots.ages.length, .ref j 1 0 a.slots.used.length, .ref k 5 0 a.list.length]
structure AfO (h : Heap) (i j k : Nat) (a : Afs) : Prop where
  ne : i ≠ j
  r1 : h i = some (.row 1 (a.slots.ages.map iv))
  r2 : h j = some (.row 1 (a.slots.used.map bv))
  r3 : h k = some (.row 5 (a.list.map afrC))
section
variable {h : Heap} {i j k : Nat} {a : Afs}
theorem AfO.n13 (A : AfO h i j k a) : i ≠ k := fun e => by
  have h1 := A.r1; rw [e, A.r3] at h1; simp at h1
theorem AfO.n23 (A : AfO h i j k a) : j ≠ k := fun e => by
  have h1 := A.r2; rw [e, A.r3] at h1; simp at h1
theorem AfO.keep {h' : Heap} (A : AfO h i j k a) (h1 : h' i = h i) (h2 : h' j = h j) (h3 : h' k = h k) : AfO h' i j k a := ⟨A.ne, h1.trans A.r1, h2.trans A.r2, h3.trans A.r3⟩
end
def stA (a : Afs) : Afs := if afsOk a = true then (match goAt a with | some i => goA a i | none => a) else default
def stX (a : Afs) : Afr := if afsOk a = true then (match goAt a with | some i => gt a.list (i : Int) | none => default) else default
def stB (a : Afs) : Bool := afsOk a && (goAt a).isSome
def RemA (p ia ib ic : Nat) (b : Bool) (a' : Afs) (h : Heap) (nx : Nat) (r : AV) (h' : Heap) (nx' : Nat) : Prop :=
  r = .bool b ∧ (b = true → ∃ id, nx ≤ id ∧ id < nx' ∧ h' p = some (.obj (afsR ia ib id a')) ∧ AfO h' ia ib id a') ∧ (b = false → ∀ j, j < nx → h' j = h j) ∧ ∀ j, j < nx → j ≠ p → j ≠ ia → j ≠ ib → j ≠ ic → h' j = h j
def StA (p ia ib ic : Nat) (a : Afs) (h : Heap) (nx : Nat) (r : AV) (h' : Heap) (nx' : Nat) : Prop :=
  (∀ i : Nat, goAt a = some i → r = .tup [.agg (afrC (gt a.list (i : Int))), .bool true] ∧ ∃ id, nx ≤ id ∧ id < nx' ∧ h' p = some (.obj (afsR ia ib id (goA a i))) ∧ AfO h' ia ib id (goA a i)) ∧
    (goAt a = none → r = .tup [.agg (afrC default), .bool false] ∧ h' p = h p ∧ AfO h' ia ib ic a) ∧ ∀ j, j < nx → j ≠ p → j ≠ ia → j ≠ ib → j ≠ ic → h' j = h j
end Go.AE
end

section
/- The capacity of nil, new zeros appended to nil, a slice of nil; rows of rows, seen by a reader. -/
namespace Go.AE
section
variable {C : Ctx}
end
def cq (qs : List (Bool × List Twg)) (i : Nat) : List Twg := ((qs.take i).map (·.2)).flatten
@[simp] theorem cq_zero (qs : List (Bool × List Twg)) : cq qs 0 = [] := rfl
theorem storeE_at {C : Ctx} {n d dT p idx off sz} {xs : List (List AV)} {cells v} {st : St} (hp : st.h p = some (.row sz xs)) (hf : frz st.h [v] = some ([v], st.h)) (hd : dT.size = 1) (ho : off + 1 ≤ sz) (hc : xs[idx]? = some cells)
    (hr : runN C n ({ st with h := upd st.h p (some (.row sz (xs.set idx (splice cells off [v])))) }.put d .dead)) : storeE C n d dT p idx off [v] st := storeE_row hf hp (by simp [hd]) (by omega) hc hr
end Go.AE
end

section
/- Timers are stopped and set anew; valid timers stay valid. -/
namespace Go.AE
end Go.AE
end

section
/- A node is created: what the request makes of a world, in plain terms. -/
namespace Go.AE
def mkW (w : Wld) (t : List Nod) (l : List Evt) (s : Spr) (u : Tms) : Wld := ⟨w.now, w.progs, t, l, s, u, w.afters, w.tasks, w.groups, w.sights, w.began, w.rang⟩
end Go.AE
end
