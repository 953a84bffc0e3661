/- An abstract machine over the model: its states, its steps, and that what it shows holds of the model. -/
import Derived.Test.YthgdlmhlijnefaaGreatA2
import Derived.ChangeShapes
import Derived.Deep.Slices
import Derived.DataReads
import Derived.Below
import Derived.WideShapes
import GoSem.ClaimJoined
section
/- What the conditions of a world answer. -/
namespace Go.AE
set_option linter.unusedVariables false

end Go.AE
end

section
/- What the reference asks of tasks, against the program. -/
namespace Go.AE
set_option linter.unusedVariables false
def tskS (t : Tsk) : Bool :=
  inR t.prog 0 7 && (inR t.pc 0 12 && (inR t.reg 0 999 && (inR t.group (-1) 7 && (inR t.err 0 99 &&
    (if t.state == 1 then tsk1 t && t.err == 0 else inR t.state 0 2 && (t.why == 0 && (t.what == 0 && (t.timer == -1 && (t.state == 2 || t.err == 0)))))))))
theorem tskOk_eq (t : Tsk) : zJ6 t = tskS t := by
  have h1 : t.state = 0 ∨ t.state = 1 ∨ t.state = 2 ∨ (¬ (0 ≤ t.state ∧ t.state ≤ 2) ∧ t.state ≠ 1 ∧ t.state ≠ 2) := by omega
  have h2 : t.why = 0 ∨ t.why = 1 ∨ t.why = 2 ∨ t.why = 3 ∨ t.why = 4 ∨ (¬ (1 ≤ t.why ∧ t.why ≤ 4) ∧ t.why ≠ 0 ∧ t.why ≠ 1 ∧ t.why ≠ 2 ∧ t.why ≠ 3 ∧ t.why ≠ 4) := by omega
  rw [Bool.eq_iff_iff]
  unfold zJ6 tskS tsk1
  simp only [Bool.and_eq_true, zC1, beq_iff_eq, Bool.or_eq_true]
  rcases h1 with h | h | h | ⟨h, h', h''⟩ <;> rcases h2 with g | g | g | g | g | ⟨g0, g1, g2, g3, g4, g5⟩ <;>
    simp_all [inR] <;> omega

theorem tskOk_facts {t : Tsk} (h : zJ6 t = true) : 0 ≤ t.prog ∧ t.prog ≤ 7 ∧ 0 ≤ t.pc ∧ t.pc ≤ 12 ∧ 0 ≤ t.reg ∧ t.reg ≤ 999 ∧ -1 ≤ t.group ∧ t.group ≤ 7 ∧ 0 ≤ t.err ∧ t.err ≤ 99 ∧ 0 ≤ t.state ∧ t.state ≤ 2 := by
  rw [tskOk_eq] at h
  simp only [tskS, Bool.and_eq_true, zC1] at h
  obtain ⟨h1, h2, h3, h4, h5, h6⟩ := h
  have : 0 ≤ t.state ∧ t.state ≤ 2 := by
    split at h6
    · rename_i g; simp at g; omega
    · simp only [Bool.and_eq_true, zC1] at h6; exact h6.1
  omega
theorem tasksOk_at {l : List Tsk} (h : zA1 l = true) {i : Int} (h0 : 0 ≤ i) (h1 : i < l.length) : zJ6 (gt l i) = true := by
  simp only [zA1, Bool.and_eq_true, Bool.not_eq_true', List.any_eq_false] at h
  have := h.2 _ (zC7 h0 h1)
  simpa using this
def zM0 {α : Type} (q : α → Bool) (l : List α) : Bool := l.all q
theorem yD {α : Type} (q : α → Bool) : zM0 q [] = true := rfl
theorem zV {α : Type} (q : α → Bool) (x : α) (xs : List α) : zM0 q (x :: xs) = (q x && zM0 q xs) := rfl
theorem zG5 (w : Wld) (g : Grp) : zB4 w g = (zI1 g && (vV g.node w.tree && ((gt w.tree g.node).kind == 1 && zM0 (fun i => vV i w.tasks) g.waits))) := by
  simp only [zB4, zM0, List.all_eq_not_any_not]
end Go.AE
end

section
/- What the reference asks of sights, against the program. -/
namespace Go.AE
set_option linter.unusedVariables false
theorem zF2 (w : Wld) (s : Sgt) : zB5 w s = (vV s.node w.tree && (inR s.pos 0 w.events.length && (inR s.err 0 2 && (if s.err == 1 then inR s.cause 0 999 else s.cause == 0)))) := by
  unfold zB5
  by_cases h : s.err = 1
  · cases vV s.node w.tree <;> cases inR s.pos 0 w.events.length <;> simp [h, inR]
  · have : inR s.err 0 2 = (s.err == 0 || s.err == 2) := by rw [Bool.eq_iff_iff, zC1]; simp; omega
    rw [this]
    cases vV s.node w.tree <;> cases inR s.pos 0 w.events.length <;> simp [h]
end Go.AE
end

section
/- What a valid world gives; lists that are picked. -/
namespace Go.AE
set_option linter.unusedVariables false

theorem wldOk_all {w : Wld} (h : zE1 w = true) : 0 ≤ w.now ∧ w.progs.length ≤ 8 ∧ w.progs.all zD2 = true ∧ yR w.tree w.events = true ∧ uN w.spread w.tree = true ∧ w.events.all (fun e => inR e.time 0 w.now) = true ∧
    uV w.timers = true ∧ w.timers.list.all (uR w) = true ∧ uU w.afters = true ∧ w.afters.list.all (fun a => vV a.node w.tree) = true ∧ zA1 w.tasks = true ∧ w.tasks.all (zC6 w) = true ∧
    w.groups.length ≤ 8 ∧ w.groups.all (zB4 w) = true ∧ w.sights.length ≤ 2000 ∧ w.began.length ≤ 2000 ∧ w.rang.length ≤ 2000 ∧ w.sights.all (zB5 w) = true ∧ w.began.all (fun n => inR n 0 99) = true ∧ w.rang.all (fun n => inR n 0 99) = true := by
  simpa only [zE1, Bool.and_eq_true, decide_eq_true_eq] using h
end Go.AE
end

section
/- Abstract machine: names that are not yet given. -/
namespace Go.AE
set_option linter.unusedVariables false
def Fr (n : Nat) (h : zX) : Prop := ∀ k, n ≤ k → h k = none
theorem Fr.upd {m id : Nat} {f : zX} {e : Option Ent} (hi : id < m) (hf : Fr m f) : Fr m (upd f id e) := fun k hk => by
  rw [upd_at, if_neg (by omega)]; exact hf k hk
theorem Fr.mono {n m : Nat} {f : zX} (h : Fr n f) (hl : n ≤ m) : Fr m f := fun k hk => h k (by omega)
theorem Fr.start {nx m : Nat} {h : zX} (hnx : ∀ j, h j ≠ none → j < nx) (hl : nx ≤ m) : Fr m h := fun k hk => by
  cases hh : h k with
  | none => rfl
  | some e => have := hnx k (by rw [hh]; simp); omega
theorem Fr.at {n : Nat} {h : zX} (hf : Fr n h) : ∀ k, h (n + k) = none := fun k => hf _ (by omega)
section
variable {C : Ctx}
def minS (C : Ctx) (n : Nxt) (d : Option Tmp) (x y : AV) (st : St) : Prop :=
  match x, y with
  | .int k m, .int _ z => uY C n (st.put d (.int k (if z < m then z else m)))
  | _, _ => False
@[simp] theorem run_min (d x y ts ty ps af n0 gd i os) (st : St) (k : Kont) :
    uC C n0 gd i (⟨d, .call ⟨.builtin .min, #[x, y], ts⟩, ty, ps, af, none⟩ :: os) st k = minS C ⟨n0, gd, i + 1, os, k⟩ d (st.ev x) (st.ev y) st := propext Iff.rfl
@[simp] theorem minS_int (n d k k' m z) (st : St) : minS C n d (.int k m) (.int k' z) st = uY C n (st.put d (.int k (if z < m then z else m))) := propext Iff.rfl
end
end Go.AE
end

section
/- Abstract machine: what the arguments read as. -/
namespace Go.AE
open Go.ChangeShapes Go.Deep
set_option linter.unusedVariables false
set_option linter.unusedSimpArgs false

inductive Sh where
  | int (k : IntKind)
  | bool
  | str
  | slice (e : Sh)
  | nil
  | cons (s r : Sh)

def Sh.size : Sh → Nat
  | .nil => 0
  | .cons s r => s.size + r.size
  | _ => 1
def ShR (B : Nat) : Sh → List AV → Prop
  | .int k, l => ∃ n, l = [.int k n] ∧ (Lit.int k n).wf = true
  | .bool, l => ∃ b, l = [.bool b]
  | .str, l => ∃ s, l = [.str s] ∧ s.size ≤ B
  | .slice e, l => l = [.nil] ∨ ∃ xs, l = [.view true e.size xs] ∧ xs.length ≤ B ∧ ∀ c ∈ xs, ShR B e c
  | .nil, l => l = []
  | .cons s r, l => ∃ x y, l = x ++ y ∧ ShR B s x ∧ ShR B r y

theorem ShR.length {B : Nat} : ∀ {s : Sh} {l : List AV}, ShR B s l → l.length = s.size
  | .int k, l, ⟨n, h, _⟩ => by subst h; rfl
  | .bool, l, ⟨n, h⟩ => by subst h; rfl
  | .str, l, ⟨n, h, _⟩ => by subst h; rfl
  | .slice e, l, h => by rcases h with h | ⟨xs, h, _⟩ <;> subst h <;> rfl
  | .nil, l, h => by simp only [ShR] at h; subst h; rfl
  | .cons s r, l, ⟨x, y, h, h1, h2⟩ => by subst h; simp [Sh.size, h1.length, h2.length]

def fsOk (P : Program) (ok : TypeId → Sh → Bool) : Nat → List Field → Sh → Bool
  | _, [], .nil => true
  | off, f :: fs, .cons a b => f.offset == off && ok f.type a && P.cellsOf f.type == a.size && fsOk P ok (off + a.size) fs b
  | _, _, _ => false
section
variable {H : Type} {enc : TypeId × Value → H} {P : Program} {w : World} {base : Nat} {spare : Nat → Bool} {held : Bool} {ρ : yP} {I : Imm}

def VRl (ρ : yP) (I : Imm) (w : World) (l : List AV) (cs : List Value) : Prop := cs.length = l.length ∧ ∀ (i : Nat) a u, l[i]? = some a → cs[i]? = some u → VR ρ I w a u

theorem VRl.one {a : AV} {u : Value} (h : VR ρ I w a u) : VRl ρ I w [a] [u] := ⟨rfl, fun i x v hx hv => by
  cases i with
  | zero => simp at hx hv; subst hx; subst hv; exact h
  | succ => simp at hx⟩
theorem VRl.append {a b : List AV} {u v : List Value} (h1 : VRl ρ I w a u) (h2 : VRl ρ I w b v) : VRl ρ I w (a ++ b) (u ++ v) := by
  refine ⟨by simp [h1.1, h2.1], fun i x y hx hy => ?_⟩
  by_cases hi : i < a.length
  · rw [List.getElem?_append_left hi] at hx
    rw [List.getElem?_append_left (by rw [h1.1]; exact hi)] at hy
    exact h1.2 i x y hx hy
  · rw [List.getElem?_append_right (by omega)] at hx
    rw [List.getElem?_append_right (by rw [h1.1]; omega), h1.1] at hy
    exact h2.2 _ x y hx hy

structure Blk (blk : DataW H → Nat) : Prop where
  str : ∀ b, b.length ≤ blk (.lit (.string b))
  len : ∀ es sp, es.length ≤ blk (.slice es sp)
  elem : ∀ es sp, ∀ e ∈ es, blk e ≤ blk (.slice es sp)
  part : ∀ ps, ∀ e ∈ ps, blk e ≤ blk (.agg ps)

mutual
def abulk {H : Type} : DataW H → Nat
  | .lit (.string bytes) => bytes.length + 1
  | .lit _ => 1
  | .nil => 1
  | .ptr d => abulk d + 1
  | .slice elems spare => abulks elems + abulks spare + 1
  | .agg parts => abulks parts + 1
  | .iface _ d => abulk d + 1
  | .map _ => 1
  | .held _ => 1
def abulks {H : Type} : List (DataW H) → Nat
  | [] => 0
  | d :: r => abulk d + abulks r
end
end
end Go.AE
end

section
/- Abstract machine: a law's row. -/
namespace Go.AE
open Go.RowKit Go.ChangeAt
set_option linter.unusedVariables false

def topA : Sh → List AV → AV
  | .nil, l => .agg l
  | .cons .., l => .agg l
  | _, l => l.headD .dead

def Imm0 (w : World) : Imm := fun _ b => b < w.heap.size

section
variable {H : Type} {enc : TypeId × Value → H} {P : Program} {w : World} {base : Nat} {spare : Nat → Bool} {held : Bool} {ρ : yP} {I : Imm}

theorem VRl.head {a : AV} {l : List AV} {u : Value} {us : List Value} (h : VRl ρ I w (a :: l) (u :: us)) : VR ρ I w a u := h.2 0 a u rfl rfl

end

theorem law_calls {P : Program} {f : FuncId} {args : List AV} {W : World} {vs : Array Value} (hc : PC P f args (.bool true)) (hv : VRs (fun _ => none) (Imm0 W) W args vs) :
    Calls P f vs W fun e w' => e = .returned (.bool true) ∧ Below W.heap.size W w' := by
  have := hc (fun _ => none) 0 (fun r _ _ => r = .bool true) rfl
  refine (this.2 (fun _ => none) (Imm0 W) W vs (fun _ _ h => (by cases h)) ⟨fun _ _ h => (by cases h), fun _ _ _ h => (by cases h), fun _ _ _ _ _ _ _ h => (by cases h), fun _ _ _ _ _ h => (by cases h), fun _ _ h => h⟩ hv).mono ?_
  rintro e w' ⟨v, r, h', nx', ρ', I', rfl, rfl, hvr, H', E, _, _, _⟩
  cases hvr
  exact ⟨rfl, E.os, E.tape, E.output, E.size, fun k hk => E.frame k hk fun ⟨_, _, _, h, _⟩ => (by cases h)⟩

theorem vrs1 {ρ I w} {a : AV} {u : Value} (h : VR ρ I w a u) : VRs ρ I w [a] #[u] := ⟨rfl, fun i x v hx hv => by
  match i with
  | 0 => simp at hx hv; subst hx; subst hv; exact h
  | _ + 1 => simp at hx⟩
theorem vrs2 {ρ I w} {a b : AV} {u v : Value} (h : VR ρ I w a u) (h2 : VR ρ I w b v) : VRs ρ I w [a, b] #[u, v] := ⟨rfl, fun i x y hx hy => by
  match i with
  | 0 => simp at hx hy; subst hx; subst hy; exact h
  | 1 => simp at hx hy; subst hx; subst hy; exact h2
  | _ + 2 => simp at hx⟩
theorem vrs3 {ρ I w} {a b c : AV} {u v t : Value} (h : VR ρ I w a u) (h2 : VR ρ I w b v) (h3 : VR ρ I w c t) : VRs ρ I w [a, b, c] #[u, v, t] := ⟨rfl, fun i x y hx hy => by
  match i with
  | 0 => simp at hx hy; subst hx; subst hy; exact h
  | 1 => simp at hx hy; subst hx; subst hy; exact h2
  | 2 => simp at hx hy; subst hx; subst hy; exact h3
  | _ + 3 => simp at hx⟩
end Go.AE
end

section
/- Abstract machine: arguments of a law, as the program's data. -/
namespace Go.AE
set_option linter.unusedVariables false

def Up (x y : AV) : Prop := ∀ (ρ : yP) (I : Imm) (w : World) (u : Value), VR ρ I w x u → VR ρ I w y u
theorem Up.refl (x : AV) : Up x x := fun _ _ _ _ h => h
theorem Up.nil (p : Bool) (sz : Nat) : Up .nil (.view p sz []) := fun ρ I w u h => by cases h; exact .viewNil p sz none 0
def UpL (l l' : List AV) : Prop := l'.length = l.length ∧ ∀ (i : Nat) x y, l[i]? = some x → l'[i]? = some y → Up x y
theorem UpL.refl (l : List AV) : UpL l l := ⟨rfl, fun i x y hx hy => by rw [hx] at hy; cases hy; exact .refl _⟩
theorem UpL.one {x y : AV} (h : Up x y) : UpL [x] [y] := ⟨rfl, fun i a b ha hb => by
  cases i with
  | zero => simp at ha hb; subst ha; subst hb; exact h
  | succ i => simp at ha⟩
theorem UpL.append {a b c d : List AV} (h1 : UpL a c) (h2 : UpL b d) : UpL (a ++ b) (c ++ d) := by
  refine ⟨by simp [h1.1, h2.1], fun i x y hx hy => ?_⟩
  by_cases hi : i < a.length
  · rw [List.getElem?_append_left hi] at hx
    rw [List.getElem?_append_left (by rw [h1.1]; exact hi)] at hy
    exact h1.2 i x y hx hy
  · rw [List.getElem?_append_right (by omega)] at hx
    rw [List.getElem?_append_right (by rw [h1.1]; omega), h1.1] at hy
    exact h2.2 _ x y hx hy
theorem UpL.agg {a b : List AV} (h : UpL a b) : Up (.agg a) (.agg b) := fun ρ I w u hv => by
  cases hv with
  | agg _ vs h1 h2 =>
    refine .agg b vs (by rw [h1, h.1]) fun i y u hy hu => ?_
    have hi : i < a.length := by rw [← h.1]; exact (List.getElem?_eq_some_iff.1 hy).1
    exact h.2 i _ y (List.getElem?_eq_getElem hi) hy _ _ _ _ (h2 i _ u (List.getElem?_eq_getElem hi) hu)
theorem Up.view {p : Bool} {sz : Nat} {xs ys : List (List AV)} (hl : ys.length = xs.length) (hc : ∀ (i : Nat) c d, xs[i]? = some c → ys[i]? = some d → UpL c d) : Up (.view p sz xs) (.view p sz ys) := fun ρ I w u hv => by
  have back : ∀ {i j : Nat} {y : AV}, zC0 ys i j = some y → ∃ x, zC0 xs i j = some x ∧ Up x y := by
    intro i j y hy
    obtain ⟨d, hd, hj⟩ := yM hy
    have hi : i < xs.length := by rw [← hl]; exact (List.getElem?_eq_some_iff.1 hd).1
    have hx := List.getElem?_eq_getElem hi
    have hu := hc i _ d hx hd
    have hj' : j < (xs[i]).length := by rw [← hu.1]; exact (List.getElem?_eq_some_iff.1 hj).1
    exact ⟨(xs[i])[j], by simp [zC0, hx], hu.2 j _ y (List.getElem?_eq_getElem hj') hj⟩
  generalize hz : AV.view p sz xs = z at hv
  cases hv <;> simp at hz
  · obtain ⟨rfl, rfl, rfl⟩ := hz
    obtain rfl : ys = [] := by simpa using hl
    exact .viewNil ..
  · obtain ⟨rfl, rfl, rfl⟩ := hz
    rename_i b off c h1 h2 h3 h4 h5 h6
    rw [← hl]
    refine .view p sz ys b off c h1 (by omega) (by omega) (fun i d hd => ?_) (fun i j y hy => ?_) (fun i j y u hy hu => ?_)
    · have hi : i < xs.length := by rw [← hl]; exact (List.getElem?_eq_some_iff.1 hd).1
      rw [(hc i _ d (List.getElem?_eq_getElem hi) hd).1]; exact h4 i _ (List.getElem?_eq_getElem hi)
    · obtain ⟨x, hx, _⟩ := back hy
      exact h5 i j x hx
    · obtain ⟨x, hx, hup⟩ := back hy
      exact hup _ _ _ _ (h6 i j x u hx hu)

def Rdr {α : Type} (sh : Sh) (c : α → List AV) (ok : Nat → α → Prop) : Prop := ∀ (B : Nat) (l : List AV), ShR B sh l → ∃ x, UpL l (c x) ∧ ok B x
def okT {α : Type} (B : Nat) (x : α) : Prop := True
theorem Rdr.int : Rdr (.int .i64) iv okT := fun B l h => by obtain ⟨n, rfl, _⟩ := h; exact ⟨n, UpL.refl _, trivial⟩
theorem Rdr.bool : Rdr .bool bv okT := fun B l h => by obtain ⟨n, rfl⟩ := h; exact ⟨n, UpL.refl _, trivial⟩
theorem Rdr.str : Rdr .str (fun s => [.str s]) (fun B (s : ByteArray) => s.size ≤ B) := fun B l h => by obtain ⟨n, rfl, h⟩ := h; exact ⟨n, UpL.refl _, h⟩
theorem Rdr.slice {α : Type} {e : Sh} {c : α → List AV} {ok : Nat → α → Prop} {sz : Nat} (hsz : e.size = sz) (h : Rdr e c ok) : Rdr (.slice e) (fun xs => [.view true sz (xs.map c)]) (fun B (xs : List α) => xs.length ≤ B ∧ ∀ x ∈ xs, ok B x) := fun B l hl => by
  subst hsz
  rcases hl with rfl | ⟨xs, rfl, hle, hx⟩
  · exact ⟨[], UpL.one (Up.nil _ _), by simp, by simp⟩
  · have : ∀ xs : List (List AV), (∀ c ∈ xs, ShR B e c) → ∃ ys : List α, ys.length = xs.length ∧ (∀ (i : Nat) a b, xs[i]? = some a → (ys.map c)[i]? = some b → UpL a b) ∧ ∀ y ∈ ys, ok B y := by
      intro xs
      induction xs with
      | nil => intro _; exact ⟨[], rfl, fun i a b h => by simp at h, by simp⟩
      | cons a xs ih =>
        intro hx
        obtain ⟨ys, h1, h2, h3⟩ := ih fun c hc => hx c (by simp [hc])
        obtain ⟨y, g1, g2⟩ := h B a (hx a (by simp))
        refine ⟨y :: ys, by simp [h1], fun i p q hp hq => ?_, fun z hz => ?_⟩
        · cases i with
          | zero => simp at hp hq; subst hp; subst hq; exact g1
          | succ i => exact h2 i p q (by simpa using hp) (by simpa using hq)
        · rcases List.mem_cons.1 hz with rfl | hz
          · exact g2
          · exact h3 z hz
    obtain ⟨ys, h1, h2, h3⟩ := this xs hx
    exact ⟨ys, UpL.one (Up.view (by simp [h1]) h2), by omega, h3⟩
theorem Rdr.nil : Rdr .nil (fun (_ : Unit) => []) okT := fun B l h => by simp only [ShR] at h; subst h; exact ⟨(), UpL.refl _, trivial⟩
theorem Rdr.cons {α β : Type} {s r : Sh} {c : α → List AV} {d : β → List AV} {ok1 : Nat → α → Prop} {ok2 : Nat → β → Prop} (h1 : Rdr s c ok1) (h2 : Rdr r d ok2) :
    Rdr (.cons s r) (fun p : α × β => c p.1 ++ d p.2) (fun B p => ok1 B p.1 ∧ ok2 B p.2) := fun B l hl => by
  obtain ⟨x, y, rfl, g1, g2⟩ := hl
  obtain ⟨a, u1, o1⟩ := h1 B x g1
  obtain ⟨b, u2, o2⟩ := h2 B y g2
  exact ⟨(a, b), u1.append u2, o1, o2⟩
theorem Rdr.map {α γ : Type} {s : Sh} {c : α → List AV} {ok : Nat → α → Prop} {c' : γ → List AV} {ok' : Nat → γ → Prop} (f : α → γ) (h : Rdr s c ok) (hc : ∀ x, c' (f x) = c x) (ho : ∀ B x, ok B x → ok' B (f x)) : Rdr s c' ok' := fun B l hl => by
  obtain ⟨x, u, o⟩ := h B l hl
  exact ⟨f x, by rw [hc]; exact u, ho B x o⟩

def i64S : Sh := .int .i64
def zH2 : Nat → Sh → Sh
  | 0, r => r
  | n + 1, r => .cons i64S (zH2 n r)
def shHan : Sh := zH2 2 .nil
def shInn : Sh := zH2 3 .nil
def shNod : Sh := zH2 5 .nil
def shEvt : Sh := zH2 4 .nil
def shTwg : Sh := zH2 3 .nil
def shTmr : Sh := zH2 4 (.cons .bool .nil)
def shAfr : Sh := .cons shHan (zH2 2 (.cons .bool .nil))
def shTsk : Sh := zH2 9 .nil
def shSgt : Sh := zH2 4 .nil
def shPik : Sh := zH2 2 .nil
def shOdr : Sh := zH2 5 .nil
def shGrp : Sh := zH2 3 (.cons (.slice i64S) (.cons i64S .nil))
def shSlt : Sh := .cons (.slice i64S) (.cons (.slice .bool) .nil)
def shSpr : Sh := .cons (.slice .bool) (.cons (.slice i64S) .nil)
def shTms : Sh := .cons (.slice shTwg) (.cons (.slice shTmr) (.cons i64S .nil))
def shAfs : Sh := .cons shSlt (.cons (.slice shAfr) .nil)
def shWld : Sh := .cons i64S (.cons (.slice (.slice shInn)) (.cons (.slice shNod) (.cons (.slice shEvt) (.cons shSpr (.cons shTms (.cons shAfs (.cons (.slice shTsk) (.cons (.slice shGrp) (.cons (.slice shSgt) (.cons (.slice i64S) (.cons (.slice i64S) .nil)))))))))))
theorem rdHan : Rdr shHan uW okT := (Rdr.int.cons (Rdr.int.cons Rdr.nil)).map (fun p => ⟨p.1, p.2.1⟩) (fun _ => rfl) (fun _ _ _ => trivial)
theorem rdInn : Rdr shInn vU okT := (Rdr.int.cons (Rdr.int.cons (Rdr.int.cons Rdr.nil))).map (fun p => ⟨p.1, p.2.1, p.2.2.1⟩) (fun _ => rfl) (fun _ _ _ => trivial)
theorem rdTwg : Rdr shTwg yX okT := (Rdr.int.cons (Rdr.int.cons (Rdr.int.cons Rdr.nil))).map (fun p => ⟨p.1, p.2.1, p.2.2.1⟩) (fun _ => rfl) (fun _ _ _ => trivial)
theorem rdNod : Rdr shNod vE okT := (Rdr.int.cons (Rdr.int.cons (Rdr.int.cons (Rdr.int.cons (Rdr.int.cons Rdr.nil))))).map (fun p => ⟨p.1, p.2.1, p.2.2.1, p.2.2.2.1, p.2.2.2.2.1⟩) (fun _ => rfl) (fun _ _ _ => trivial)
theorem rdEvt : Rdr shEvt vK okT := (Rdr.int.cons (Rdr.int.cons (Rdr.int.cons (Rdr.int.cons Rdr.nil)))).map (fun p => ⟨p.1, p.2.1, p.2.2.1, p.2.2.2.1⟩) (fun _ => rfl) (fun _ _ _ => trivial)
theorem rdSgt : Rdr shSgt uP okT := (Rdr.int.cons (Rdr.int.cons (Rdr.int.cons (Rdr.int.cons Rdr.nil)))).map (fun p => ⟨p.1, p.2.1, p.2.2.1, p.2.2.2.1⟩) (fun _ => rfl) (fun _ _ _ => trivial)
theorem rdTmr : Rdr shTmr vN okT := (Rdr.int.cons (Rdr.int.cons (Rdr.int.cons (Rdr.int.cons (Rdr.bool.cons Rdr.nil))))).map (fun p => ⟨p.1, p.2.1, p.2.2.1, p.2.2.2.1, p.2.2.2.2.1⟩) (fun _ => rfl) (fun _ _ _ => trivial)
theorem rdAfr : Rdr shAfr yI okT := (rdHan.cons (Rdr.int.cons (Rdr.int.cons (Rdr.bool.cons Rdr.nil)))).map (fun p => ⟨p.1, p.2.1, p.2.2.1, p.2.2.2.1⟩) (fun _ => rfl) (fun _ _ _ => trivial)
theorem rdTsk : Rdr shTsk vQ okT := (Rdr.int.cons (Rdr.int.cons (Rdr.int.cons (Rdr.int.cons (Rdr.int.cons (Rdr.int.cons (Rdr.int.cons (Rdr.int.cons (Rdr.int.cons Rdr.nil))))))))).map
  (fun p => ⟨p.1, p.2.1, p.2.2.1, p.2.2.2.1, p.2.2.2.2.1, p.2.2.2.2.2.1, p.2.2.2.2.2.2.1, p.2.2.2.2.2.2.2.1, p.2.2.2.2.2.2.2.2.1⟩) (fun _ => rfl) (fun _ _ _ => trivial)
theorem rdInts : Rdr (.slice i64S) (fun xs => [.view true 1 (xs.map iv)]) (fun B (xs : List Int) => xs.length ≤ B) := (Rdr.slice rfl Rdr.int).map id (fun _ => rfl) (fun _ _ h => h.1)
theorem rdBools : Rdr (.slice .bool) (fun xs => [.view true 1 (xs.map bv)]) (fun B (xs : List Bool) => xs.length ≤ B) := (Rdr.slice rfl Rdr.bool).map id (fun _ => rfl) (fun _ _ h => h.1)
theorem rdS {α : Type} {e : Sh} {c : α → List AV} {sz : Nat} (hsz : e.size = sz) (h : Rdr e c okT) : Rdr (.slice e) (fun xs => [.view true sz (xs.map c)]) (fun B (xs : List α) => xs.length ≤ B) := (Rdr.slice hsz h).map id (fun _ => rfl) (fun _ _ h => h.1)
theorem rdGrp : Rdr shGrp (vA true) okT := (Rdr.int.cons (Rdr.int.cons (Rdr.int.cons (rdInts.cons (Rdr.int.cons Rdr.nil))))).map (fun p => ⟨p.1, p.2.1, p.2.2.1, p.2.2.2.1, p.2.2.2.2.1⟩) (fun _ => rfl) (fun _ _ _ => trivial)
theorem rdPrg : Rdr (.slice shInn) (zB6 true) okT := (rdS rfl rdInn).map id (fun _ => rfl) (fun _ _ _ => trivial)
abbrev FT : Nat → Bool := fun _ => true
theorem rdSlt : Rdr shSlt (yW FT) okT := (rdInts.cons (rdBools.cons Rdr.nil)).map (fun p => ⟨p.1, p.2.1⟩) (fun _ => rfl) (fun _ _ _ => trivial)
theorem rdSpr : Rdr shSpr (zE7 FT) okT := (rdBools.cons (rdInts.cons Rdr.nil)).map (fun p => ⟨p.1, p.2.1⟩) (fun _ => rfl) (fun _ _ _ => trivial)
theorem rdTms : Rdr shTms (uT FT) okT := ((rdS rfl rdTwg).cons ((rdS rfl rdTmr).cons (Rdr.int.cons Rdr.nil))).map (fun p => ⟨p.1, p.2.1, p.2.2.1⟩) (fun _ => rfl) (fun _ _ _ => trivial)
theorem rdAfs : Rdr shAfs (vD FT) okT := (rdSlt.cons ((rdS rfl rdAfr).cons Rdr.nil)).map (fun p => ⟨p.1, p.2.1⟩) (fun _ => rfl) (fun _ _ _ => trivial)
theorem rdWld : Rdr shWld (wldV FT) okT := (Rdr.int.cons ((rdS rfl rdPrg).cons ((rdS rfl rdNod).cons ((rdS rfl rdEvt).cons (rdSpr.cons (rdTms.cons (rdAfs.cons ((rdS rfl rdTsk).cons ((rdS rfl rdGrp).cons ((rdS rfl rdSgt).cons (rdInts.cons (rdInts.cons Rdr.nil)))))))))))).map
  (fun p => ⟨p.1, p.2.1, p.2.2.1, p.2.2.2.1, p.2.2.2.2.1, p.2.2.2.2.2.1, p.2.2.2.2.2.2.1, p.2.2.2.2.2.2.2.1, p.2.2.2.2.2.2.2.2.1, p.2.2.2.2.2.2.2.2.2.1, p.2.2.2.2.2.2.2.2.2.2.1, p.2.2.2.2.2.2.2.2.2.2.2.1⟩) (fun _ => rfl) (fun _ _ _ => trivial)
theorem Rdr.arg {α : Type} {s r : Sh} {c : α → List AV} {ok : Nat → α → Prop} (h : Rdr (.cons s r) c ok) {B : Nat} {l : List AV} (hl : ShR B (.cons s r) l) : ∃ x, Up (topA (.cons s r) l) (.agg (c x)) ∧ ok B x := by
  obtain ⟨x, u, o⟩ := h B l hl
  exact ⟨x, u.agg, o⟩
end Go.AE
end

section
/- Abstract machine: what the arguments read as, by their weights: every slice and string takes at most so many bytes. -/
namespace Go.AE
open Go.ChangeShapes Go.Deep Go.RowKit Go.ChangeAt
set_option linter.unusedVariables false
set_option linter.unusedSimpArgs false

def shOkW (P : Program) : Nat → TypeId → Sh → Bool
  | 0, _, _ => false
  | n + 1, t, s =>
    match P.underlying t, s with
    | some (.int k), .int k' => decide (k = k')
    | some .bool, .bool => true
    | some .string, .str => true
    | some (.slice e), .slice s => shOkW P n e s && P.cellsOf e == s.size && (decide (0 < s.size) && decide (0 < P.bytesOf e))
    | some (.struct fs), s => fsOk P (shOkW P n) 0 fs.toList s && P.cellsOf t == s.size
    | _, _ => false

section
variable {H : Type} {enc : TypeId × Value → H} {P : Program} {w : World} {base : Nat} {spare : Nat → Bool} {held : Bool} {ρ : yP} {I : Imm}

def Light (P : Program) (t : TypeId) (d : DataW H) : Prop := (d.weights P t).all (· ≤ reachBytes) = true
theorem light_str {t : TypeId} {b : List UInt8} (h : Light (H := H) P t (.lit (.string b))) : b.length ≤ reachBytes := by
  simp only [Light, DataW.weights, List.all_cons, Bool.and_eq_true, decide_eq_true_eq] at h; exact h.1
theorem light_len {t e : TypeId} {es sp : List (DataW H)} (hu : P.underlying t = some (.slice e)) (hb : 0 < P.bytesOf e) (h : Light P t (.slice es sp)) : es.length ≤ reachBytes := by
  simp only [Light, DataW.weights, hu, List.all_cons, Bool.and_eq_true, decide_eq_true_eq] at h
  have h1 := h.1
  have h2 : (es.length + sp.length) * 1 ≤ (es.length + sp.length) * P.bytesOf e := Nat.mul_le_mul_left _ hb
  omega
theorem light_all {e : TypeId} : ∀ {es : List (DataW H)}, (DataW.weightsAll P e es).all (· ≤ reachBytes) = true → ∀ d ∈ es, Light P e d
  | [], _, d, hd => by simp at hd
  | x :: xs, h, d, hd => by
    simp only [DataW.weightsAll, List.all_append, Bool.and_eq_true] at h
    rcases List.mem_cons.1 hd with rfl | hd
    · exact h.1
    · exact light_all h.2 d hd
theorem light_elem {t e : TypeId} {es sp : List (DataW H)} (hu : P.underlying t = some (.slice e)) (h : Light P t (.slice es sp)) : ∀ d ∈ es, Light P e d := by
  simp only [Light, DataW.weights, hu, List.all_cons, List.all_append, Bool.and_eq_true] at h
  exact light_all h.2.1
theorem light_each : ∀ {ts : List TypeId} {ps : List (DataW H)}, (DataW.weightsEach P ts ps).all (· ≤ reachBytes) = true → ∀ (i : Nat) t d, ts[i]? = some t → ps[i]? = some d → Light P t d
  | [], _, _, i, t, d, h1, _ => by simp at h1
  | t0 :: ts, [], _, i, t, d, _, h2 => by simp at h2
  | t0 :: ts, p :: ps, h, i, t, d, h1, h2 => by
    simp only [DataW.weightsEach, List.all_append, Bool.and_eq_true] at h
    cases i with
    | zero => simp at h1 h2; subst h1; subst h2; exact h.1
    | succ i => exact light_each h.2 i t d (by simpa using h1) (by simpa using h2)
theorem light_part {t : TypeId} {fs : Array Field} {ps : List (DataW H)} (hu : P.underlying t = some (.struct fs)) (h : Light P t (.agg ps)) : ∀ (i : Nat) f d, fs.toList[i]? = some f → ps[i]? = some d → Light P f.type d := by
  simp only [Light, DataW.weights, hu] at h
  intro i f d hf hd
  exact light_each h i f.type d (by rw [List.getElem?_map, hf]; rfl) hd

theorem fields_vrW {ok : TypeId → Sh → Bool} {m : Nat} {cs : List Value}
    (ih : ∀ (s : Sh) (t : TypeId) (cs : List Value) (x : DataW H × List MemPlace), ok t s = true → DataW.trod enc P w base spare held m t cs = some x → Light P t x.1 → ∃ l, ShR reachBytes s l ∧ VRl ρ I w l cs) :
    ∀ (s : Sh) (fs : List Field) (off : Nat) (xs : List (DataW H × List MemPlace)), fsOk P ok off fs s = true → xs.length = fs.length →
      (∀ (i : Nat) (f : Field), fs[i]? = some f → DataW.trod enc P w base spare held m f.type ((cs.drop f.offset).take (P.cellsOf f.type)) = xs[i]?) →
      (∀ (i : Nat) f x, fs[i]? = some f → xs[i]? = some x → Light P f.type x.1) → off + s.size ≤ cs.length → ∃ l, ShR reachBytes s l ∧ VRl ρ I w l ((cs.drop off).take s.size) := by
  intro s
  induction s with
  | nil =>
    intro fs off xs hok hl hx hb hle
    exact ⟨[], rfl, by simp [Sh.size], fun i a u h => by simp at h⟩
  | cons a b _ ihb =>
    intro fs off xs hok hl hx hb hle
    cases fs with
    | nil => simp [fsOk] at hok
    | cons f fs =>
      cases xs with
      | nil => simp at hl
      | cons x xs =>
        simp only [fsOk, Bool.and_eq_true, beq_iff_eq] at hok
        obtain ⟨⟨⟨h1, h2⟩, h3⟩, h4⟩ := hok
        simp only [Sh.size] at hle
        have ht := hx 0 f rfl
        rw [h1, h3] at ht
        obtain ⟨la, ra, va⟩ := ih a f.type _ x h2 ht (hb 0 f x rfl rfl)
        obtain ⟨lb, rb, vb⟩ := ihb fs (off + a.size) xs h4 (by simpa using hl) (fun i g hg => by
          have := hx (i + 1) g (by simpa using hg)
          simpa using this) (fun i g y hg hy => hb (i + 1) g y (by simpa using hg) (by simpa using hy)) (by omega)
        refine ⟨la ++ lb, ⟨la, lb, rfl, ra, rb⟩, ?_⟩
        have e : (cs.drop off).take (Sh.cons a b).size = (cs.drop off).take a.size ++ (cs.drop (off + a.size)).take b.size := by
          simp only [Sh.size]
          rw [List.take_add, List.drop_drop]
        rw [e]
        exact va.append vb
  | _ =>
    intro fs off xs hok
    cases fs <;> simp [fsOk] at hok

theorem trod_vrW (hI : ∀ b, b < w.heap.size → I true b) : ∀ (n : Nat) (s : Sh) (t : TypeId) (fuel : Nat) (cs : List Value) (x : DataW H × List MemPlace),
    shOkW P n t s = true → DataW.trod enc P w base spare held fuel t cs = some x → Light P t x.1 → ∃ l, ShR reachBytes s l ∧ VRl ρ I w l cs := by
  have hB : reachBytes ≤ LIM := by decide
  intro n
  induction n with
  | zero => intro s t fuel cs x h; simp [shOkW] at h
  | succ n ih =>
    intro s t fuel cs x hs ht hb
    unfold shOkW at hs
    split at hs
    · rename_i k k' hu
      simp only [decide_eq_true_eq] at hs
      subst hs
      obtain ⟨z, rfl, rfl, hw⟩ := DataW.trod_int hu ht
      exact ⟨[.int k z], ⟨z, rfl, hw⟩, VRl.one (.int k z)⟩
    · rename_i hu
      obtain ⟨z, rfl, rfl⟩ := DataW.trod_bool hu ht
      exact ⟨[.bool z], ⟨z, rfl⟩, VRl.one (.bool z)⟩
    · rename_i hu
      obtain ⟨z, rfl, rfl, hw⟩ := DataW.trod_string hu ht
      refine ⟨[.str z], ⟨z, rfl, ?_⟩, VRl.one (.str z)⟩
      exact light_str (b := z.data.toList) hb
    · rename_i e se hu
      simp only [Bool.and_eq_true, beq_iff_eq, decide_eq_true_eq] at hs
      obtain ⟨⟨h1, h2⟩, h3, h3b⟩ := hs
      rcases open_slice hu ht with ⟨rfl, rfl⟩ | ⟨a, len, cap, m, n', D, Pl, rfl, hba, hl, hm, hmm, rfl, hx⟩
      · exact ⟨[.nil], .inl rfl, VRl.one .nil⟩
      · have hlm : len ≤ m := by rw [hmm]; split <;> omega
        have hlen : len ≤ reachBytes := by
          have := light_len hu h3b hb
          simp only [List.length_map, List.length_range] at this
          exact this
        rw [h2] at hx
        have hx' : ∀ i, i < len → ∃ l, ShR reachBytes se l ∧ ∃ cs', w.cells? base (a.add (i * se.size)) se.size = some cs' ∧ VRl ρ I w l cs' := by
          intro i hi
          obtain ⟨cs', g1, g2⟩ := hx i (by omega)
          obtain ⟨l, g3, g4⟩ := ih se e n' cs' _ h1 g2 (light_elem hu hb _ (List.mem_map.2 ⟨i, List.mem_range.2 hi, rfl⟩))
          exact ⟨l, g3, cs', g1, g4⟩
        obtain ⟨f, hf⟩ := choose_lt hx'
        refine ⟨[.view true se.size ((List.range len).map f)], .inr ⟨_, rfl, by simpa using hlen, fun c hc => ?_⟩, VRl.one ?_⟩
        · obtain ⟨i, hi, rfl⟩ := List.mem_map.1 hc
          exact (hf i (List.mem_range.1 hi)).1
        · cases len with
          | zero => exact .viewNil ..
          | succ len =>
            have hcell : ∀ i j, i < len + 1 → j < se.size → ∃ u, w.cell? ⟨a.block, a.off + i * se.size + j, none⟩ = some u ∧ ∀ y, (f i)[j]? = some y → VR ρ I w y u := by
              intro i j hi hj
              obtain ⟨_, cs', g1, g2⟩ := hf i hi
              obtain ⟨q1, q2, q3⟩ := World.cells?_some g1
              have q4 := q3 j hj
              rw [List.getElem?_eq_getElem (by omega)] at q4
              have hsp : ((a.add (i * se.size)).add j).spot = none := by
                cases hs : ((a.add (i * se.size)).add j).spot with
                | none => rfl
                | some _ =>
                  unfold World.cell? at q4
                  simp only [hs, Option.isSome_some, if_true] at q4
                  split at q4 <;> cases q4
              have hadd : (a.add (i * se.size)).add j = ⟨a.block, a.off + i * se.size + j, none⟩ := by
                rw [add_add] at hsp ⊢
                unfold Addr.add at hsp ⊢
                split
                · rename_i h0
                  rw [if_pos h0] at hsp
                  cases a; simp_all
                · simp [Nat.add_assoc]
              rw [hadd] at q4
              refine ⟨_, q4, fun y hy => g2.2 j y _ hy (List.getElem?_eq_getElem (by omega))⟩
            have hlt : a.block < w.heap.size := by
              obtain ⟨u, hu, _⟩ := hcell 0 0 (by omega) h3
              unfold World.cell? at hu
              split at hu
              · rename_i heq
                exact (Array.getElem?_eq_some_iff.1 heq).1
              · cases hu
            have hsp : a.spot = none := by
              obtain ⟨_, cs', g1, g2⟩ := hf 0 (by omega)
              obtain ⟨q1, q2, q3⟩ := World.cells?_some g1
              have q4 := q3 0 h3
              rw [List.getElem?_eq_getElem (by omega)] at q4
              simp only [Nat.zero_mul, Addr.add, if_true] at q4
              cases hs : a.spot with
              | none => rfl
              | some _ =>
                unfold World.cell? at q4
                simp only [hs, Option.isSome_some, if_true] at q4
                split at q4 <;> cases q4
            have ha : a = ⟨a.block, a.off, none⟩ := by cases a; simp_all
            have hl1 : ((List.range (len + 1)).map f).length = len + 1 := by simp
            have := VR.view (ρ := ρ) (I := I) (w := w) true se.size ((List.range (len + 1)).map f) a.block a.off cap (hI _ hlt) (by rw [hl1]; omega) (by rw [hl1]; exact hl) (fun i x hx => ?_) (fun i j x hx => ?_) (fun i j x u hx hu => ?_)
            · rw [hl1, ← ha] at this; exact this
            · rw [List.getElem?_map, Option.map_eq_some_iff] at hx
              obtain ⟨i', hi', rfl⟩ := hx
              have := (List.getElem?_eq_some_iff.1 hi')
              obtain ⟨q1, q2⟩ := this
              simp at q1 q2; subst q2
              exact (hf i (by omega)).1.length
            · obtain ⟨cells, q1, q2⟩ := yM hx
              rw [List.getElem?_map, Option.map_eq_some_iff] at q1
              obtain ⟨i', hi', rfl⟩ := q1
              obtain ⟨q3, q4⟩ := (List.getElem?_eq_some_iff.1 hi')
              simp at q3 q4; subst q4
              have hj : j < se.size := by rw [← (hf i (by omega)).1.length]; exact (List.getElem?_eq_some_iff.1 q2).1
              obtain ⟨u, hu, _⟩ := hcell i j (by omega) hj
              exact ⟨u, hu⟩
            · obtain ⟨cells, q1, q2⟩ := yM hx
              rw [List.getElem?_map, Option.map_eq_some_iff] at q1
              obtain ⟨i', hi', rfl⟩ := q1
              obtain ⟨q3, q4⟩ := (List.getElem?_eq_some_iff.1 hi')
              simp at q3 q4; subst q4
              have hj : j < se.size := by rw [← (hf i (by omega)).1.length]; exact (List.getElem?_eq_some_iff.1 q2).1
              obtain ⟨u', hu', h'⟩ := hcell i j (by omega) hj
              rw [hu'] at hu; cases hu
              exact h' x q2
    · rename_i fs hu

      simp only [Bool.and_eq_true, beq_iff_eq] at hs
      obtain ⟨h1, h2⟩ := hs
      obtain ⟨xs, m, rfl, rfl, hl, hlen, hf⟩ := DataW.trod_struct hu ht
      have := fields_vrW (enc := enc) (P := P) (w := w) (base := base) (spare := spare) (held := held) (ρ := ρ) (I := I) (ok := shOkW P n) (m := m) (cs := cs)
        (fun s t cs x => ih s t m cs x) _ fs.toList 0 xs h1 (by simpa using hlen) (fun i f hi => hf i f (by simpa using hi)) (fun i f x hf hx => light_part hu hb i f x.1 hf (by rw [List.getElem?_map, hx]; rfl)) (by omega)
      rw [List.drop_zero, List.take_of_length_le (by omega)] at this
      exact this
    · cases hs
theorem arg_vrW {n : Nat} {s : Sh} {t : TypeId} {v : Value} {d : DataW H} {ps : List MemPlace} {r : Reach} {b0 : Nat} {W : World}
    (hs : shOkW P n t s = true) (ht : DataW.Trod enc P W base spare held t v d ps) (hok : Value.okWide P W r b0 t v) (hb : Light P t d) :
    ∃ l, ShR reachBytes s l ∧ VR ρ (Imm0 W) W (topA s l) v := by
  obtain ⟨fuel, ht⟩ := ht
  obtain ⟨l, h1, h2⟩ := trod_vrW (ρ := ρ) (I := Imm0 W) (fun b hb => hb) n s t fuel _ _ hs ht hb
  refine ⟨l, h1, ?_⟩
  have hlen := h1.length
  cases n with
  | zero => simp [shOkW] at hs
  | succ n =>
    unfold shOkW at hs
    have one : ∀ (x : Value), v = x → (v.cells.toList = [x]) → l.length = 1 → VR ρ (Imm0 W) W (l.headD .dead) v := by
      intro x hx hc hl
      match l, hl with
      | [a], _ => rw [hc] at h2; rw [hx]; exact h2.head
    have agg : ∀ cs, v = .agg cs → VR ρ (Imm0 W) W (.agg l) v := by
      rintro cs rfl
      exact .agg l cs (by simpa [Value.cells] using h2.1) fun i x u hx hu => h2.2 i x u hx (by simpa [Value.cells] using hu)
    split at hs
    · rename_i k k' hu
      obtain ⟨z, rfl⟩ := WideShapes.okWide_int hu hok
      exact one _ rfl rfl hlen
    · rename_i hu
      have : ∃ z, v = .bool z := by
        simp only [Value.okWide, hu, Cell.okWide] at hok
        cases v <;> simp_all [Cell.ok]
      obtain ⟨z, rfl⟩ := this
      exact one _ rfl rfl hlen
    · rename_i hu
      obtain ⟨z, rfl⟩ := WideShapes.okWide_string hu hok
      exact one _ rfl rfl hlen
    · rename_i e se hu
      obtain ⟨a, len, cap, rfl⟩ := WideShapes.okWide_slice hu hok
      exact one _ rfl rfl hlen
    · rename_i s1 _ _ fs hu
      simp only [Bool.and_eq_true] at hs
      obtain ⟨h3, _⟩ := hs
      simp only [Value.okWide, hu] at hok
      obtain ⟨cs, rfl, _⟩ := hok
      cases s1 with
      | nil => exact agg _ rfl
      | cons a b => exact agg _ rfl
      | _ => cases hfs : fs.toList <;> simp [hfs, fsOk] at h3
    · cases hs
end

end Go.AE
end

section
/- Abstract machine: a world in owned rows. -/
namespace Go.AE
set_option linter.unusedVariables false

structure WI where
  top : Nat → Nat
  pg : List Nat
  gr : List Nat

def prgR (p : List Inn) (id : Nat) : List AV := [.ref id 3 0 p.length]
def uL (g : Grp) (id : Nat) : List AV := [.int .i64 g.node, .int .i64 g.limit, .int .i64 g.active, .ref id 1 0 g.waits.length, .int .i64 g.first]
def zD6 (X : WI) (w : Wld) : List AV :=
  [.int .i64 w.now, .ref (X.top 0) 1 0 w.progs.length, .ref (X.top 1) 5 0 w.tree.length, .ref (X.top 2) 4 0 w.events.length, .ref (X.top 3) 1 0 w.spread.told.length, .ref (X.top 4) 1 0 w.spread.work.length,
   .ref (X.top 5) 3 0 w.timers.heap.length, .ref (X.top 6) 5 0 w.timers.list.length, .int .i64 w.timers.next, .ref (X.top 7) 1 0 w.afters.slots.ages.length, .ref (X.top 8) 1 0 w.afters.slots.used.length, .ref (X.top 9) 5 0 w.afters.list.length,
   .ref (X.top 10) 9 0 w.tasks.length, .ref (X.top 11) 5 0 w.groups.length, .ref (X.top 12) 4 0 w.sights.length, .ref (X.top 13) 1 0 w.began.length, .ref (X.top 14) 1 0 w.rang.length]
def zM1 (X : WI) (w : Wld) : Nat → Ent
  | 0 => .row 1 (List.zipWith prgR w.progs X.pg)
  | 1 => .row 5 (w.tree.map vE)
  | 2 => .row 4 (w.events.map vK)
  | 3 => .row 1 (w.spread.told.map bv)
  | 4 => .row 1 (w.spread.work.map iv)
  | 5 => .row 3 (w.timers.heap.map yX)
  | 6 => .row 5 (w.timers.list.map vN)
  | 7 => .row 1 (w.afters.slots.ages.map iv)
  | 8 => .row 1 (w.afters.slots.used.map bv)
  | 9 => .row 5 (w.afters.list.map yI)
  | 10 => .row 9 (w.tasks.map vQ)
  | 11 => .row 5 (List.zipWith uL w.groups X.gr)
  | 12 => .row 4 (w.sights.map uP)
  | 13 => .row 1 (w.began.map iv)
  | _ => .row 1 (w.rang.map iv)
def WI.ids (X : WI) : List Nat := (List.range 15).map X.top ++ (X.pg ++ X.gr)
structure WV (h : zX) (X : WI) (w : Wld) : Prop where
  top : ∀ k, k < 15 → h (X.top k) = some (zM1 X w k)
  pl : X.pg.length = w.progs.length
  gl : X.gr.length = w.groups.length
  prog : ∀ (j : Nat) p id, w.progs[j]? = some p → X.pg[j]? = some id → h id = some (.row 3 (p.map vU))
  wait : ∀ (j : Nat) g id, w.groups[j]? = some g → X.gr[j]? = some id → h id = some (.row 1 (g.waits.map iv))
  nd : X.ids.Nodup

theorem WV.top_inj {h X w} (v : WV h X w) {i j : Nat} (hi : i < 15) (hj : j < 15) (e : X.top i = X.top j) : i = j := by
  have := (List.nodup_append.1 v.nd).1
  have key := List.pairwise_iff_getElem.1 this
  by_cases hij : i = j
  · exact hij
  · exfalso
    rcases Nat.lt_or_gt_of_ne hij with hlt | hlt
    · exact key i j (by simp; omega) (by simp; omega) hlt (by simp [e])
    · exact key j i (by simp; omega) (by simp; omega) hlt (by simp [e])

theorem WV.keep {h h' X w} (v : WV h X w) (hk : ∀ id ∈ X.ids, h' id = h id) : WV h' X w where
  top k hk' := by rw [hk _ (by simp only [WI.ids, List.mem_append, List.mem_map]; exact .inl ⟨k, by simpa using hk', rfl⟩)]; exact v.top k hk'
  pl := v.pl
  gl := v.gl
  prog j p id hp hi := by rw [hk id (by simp only [WI.ids, List.mem_append]; exact .inr (.inl (List.mem_of_getElem? hi)))]; exact v.prog j p id hp hi
  wait j g id hg hi := by rw [hk id (by simp only [WI.ids, List.mem_append]; exact .inr (.inr (List.mem_of_getElem? hi)))]; exact v.wait j g id hg hi
  nd := v.nd

theorem zip_get {α : Type} {f : α → Nat → List AV} {xs : List α} {is : List Nat} (hl : is.length = xs.length) (i : Nat) : (List.zipWith f xs is)[i]? = (xs[i]?).bind fun x => (is[i]?).map fun k => f x k := by
  rw [List.getElem?_zipWith]
  cases hx : xs[i]? with
  | none => simp
  | some x => cases is[i]? <;> simp
theorem Bor.zip {h : zX} {α : Type} {f : α → Nat → List AV} {g : α → List AV} {xs : List α} {is : List Nat} {id sz len : Nat} (hl : is.length = xs.length) (hid : h id = some (.row sz (List.zipWith f xs is))) (hlen : len = xs.length)
    (hb : ∀ (j : Nat) x k, xs[j]? = some x → is[j]? = some k → Bors h (f x k) (g x)) : Bor h (.ref id sz 0 len) (.view false sz (xs.map g)) := by
  subst hlen
  have key : ∀ (i : Nat) c d, (List.zipWith f xs is)[i]? = some c → (xs.map g)[i]? = some d → Bors h c d := by
    intro i c d hc hd
    rw [zip_get hl] at hc
    rw [List.getElem?_map] at hd
    cases hx : xs[i]? with
    | none => rw [hx] at hc; cases hc
    | some x =>
      rw [hx] at hc hd
      cases hk : is[i]? with
      | none => rw [hk] at hc; cases hc
      | some k =>
        rw [hk] at hc
        cases hc; cases hd
        exact hb i x k hx hk
  refine Bor.ref id sz 0 xs.length _ _ hid (by simp [hl]) (by simp) (fun i c d hc hd => ?_) (fun i j x y hx hy => ?_)
  · rw [List.drop_zero, List.take_of_length_le (by simp [hl])] at hc
    exact (key i c d hc hd).len
  · rw [List.drop_zero, List.take_of_length_le (by simp [hl])] at hx
    obtain ⟨c, hc, hx⟩ := yM hx
    obtain ⟨d, hd, hy⟩ := yM hy
    exact (key i c d hc hd).get j x y hx hy
abbrev FF : Nat → Bool := fun _ => false
theorem WV.bors {h X w} (v : WV h X w) : Bors h (zD6 X w) (wldV FF w) := by
  have t := v.top
  unfold zD6 wldV
  refine .cons (.same _) (.cons (Bor.zip v.pl (t 0 (by omega)) rfl fun j x k hx hk => .cons (.ref0 (v.prog j x k hx hk) rfl (by simp)) .nil) (.cons (.ref0 (t 1 (by omega)) rfl (by simp)) (.cons (.ref0 (t 2 (by omega)) rfl (by simp)) (.cons (.ref0 (t 3 (by omega)) rfl (by simp))
    (.cons (.ref0 (t 4 (by omega)) rfl (by simp)) (.cons (.ref0 (t 5 (by omega)) rfl (by simp)) (.cons (.ref0 (t 6 (by omega)) rfl (by simp)) (.cons (.same _) (.cons (.ref0 (t 7 (by omega)) rfl (by simp)) (.cons (.ref0 (t 8 (by omega)) rfl (by simp)) (.cons (.ref0 (t 9 (by omega)) rfl (by simp))
    (.cons (.ref0 (t 10 (by omega)) rfl (by simp)) (.cons (Bor.zip v.gl (t 11 (by omega)) rfl fun j x k hx hk => .cons (.same _) (.cons (.same _) (.cons (.same _) (.cons (.ref0 (v.wait j x k hx hk) rfl (by simp)) (.cons (.same _) .nil))))) (.cons (.ref0 (t 12 (by omega)) rfl (by simp))
    (.cons (.ref0 (t 13 (by omega)) rfl (by simp)) (.cons (.ref0 (t 14 (by omega)) rfl (by simp)) .nil))))))))))))))))
end Go.AE
end

section
/- Abstract machine: contracts of functions that hand back a world in new rows. -/
namespace Go.AE
set_option linter.unusedVariables false
theorem zR {α : Type} {f : α → List AV} (hf : ∀ x, ∀ c ∈ f x, Fz c) (xs : List α) : ∀ i j x, zC0 (xs.map f) i j = some x → Fz x := fun i j x hx => by
  obtain ⟨cs, h1, h2⟩ := yM hx
  obtain ⟨y, _, rfl⟩ := List.mem_map.1 (List.mem_of_getElem? h1)
  exact hf y x (List.mem_of_getElem? h2)

theorem ACall.ends {P f args h nx} {Q : AV → zX → Nat → Prop} (hc : ACall P f args h nx Q) : ACall P f args h nx fun r h' nx' => Q r h' nx' ∧ nx ≤ nx' ∧ Fr nx' h' :=
  ⟨hc.1, fun ρ I w vs h1 h2 h3 => (hc.2 ρ I w vs h1 h2 h3).mono fun e w' ⟨v, r, h', nx', ρ', I', g1, hq, g3, g4, g5, g6, g7, g8⟩ =>
    ⟨v, r, h', nx', ρ', I', g1, ⟨hq, g7, fun k hk => by
      cases hh : h' k with
      | none => rfl
      | some e => obtain ⟨B, hB⟩ := (g4.ent hh).base; have := g8 _ B hB; omega⟩, g3, g4, g5, g6, g7, g8⟩⟩

def AC (P : Program) (f : FuncId) (args : List AV) (Pre : zX → Nat → Prop) (Q : zX → Nat → AV → zX → Nat → Prop) : Prop :=
  ∀ (h : zX) (nx : Nat), Pre h nx → ACall P f args h nx fun r h' nx' => Q h nx r h' nx' ∧ nx ≤ nx' ∧ Fr nx' h'

def RetQ (C : Ctx) (rs : List ResultVar) (Q : AV → zX → Nat → Prop) : AX → St → Prop := RetK C rs Q
def finQ (Q : AV → zX → Nat → Prop) (v : Option AV) (s : St) : Prop := ∃ r, v = some r ∧ Q r s.h s.nx
@[simp] theorem finQ_some (Q r) (s : St) : finQ Q (some r) s = Q r s.h s.nx := by simp [finQ]
@[simp] theorem retQ_ret (C rs Q) (s : St) : RetQ C rs Q .ret s = finQ Q (resultsA C s rs) s := propext Iff.rfl
@[simp] theorem retQ_normal (C rs Q) (s : St) : RetQ C rs Q .normal s = finQ Q (resultsA C s rs) s := propext Iff.rfl

theorem AC.of {C : Ctx} (ok : C.Ok) {f : FuncId} {fn : Func} {c : Code} {args : List AV} {Pre : zX → Nat → Prop} {Q : zX → Nat → AV → zX → Nat → Prop} (hf : C.P.funcs[f]? = some fn) (hb : fn.body = some c)
    (hname : (fn.name == "runtime.NumGoroutine") = false) (hc : zB9 fn.ntmps c = true) (hargs : args.length ≤ fn.ntmps)
    (hw : ∀ (h : zX) (nx : Nat), Fr nx h → (∀ j, h j ≠ none → j < nx) → Pre h nx → goC C c ⟨argT args, h, nx⟩ (.fin (RetQ C fn.results.toList (Q h nx)))) : AC C.P f args Pre Q := by
  intro h nx hp
  refine ⟨⟨fn, hf, hname, by simp [hb]⟩, fun ρ I w vs hnm H hv => ?_⟩
  have hlt : ∀ j, h j ≠ none → j < nx := by
    intro j hj
    cases he : h j with
    | none => exact absurd he hj
    | some e => obtain ⟨B, hB⟩ := (H.ent he).base; exact hnm j B hB
  exact (ACall.ends (ACall.of_body ok hf hb hname hc hargs (hw h nx (Fr.start hlt (Nat.le_refl _)) hlt hp))).2 ρ I w vs hnm H hv

theorem AC.o {C : Ctx} (ok : C.Ok) {f : FuncId} {fn : Func} {c : Code} {args : List AV} {Pre : zX → Nat → Prop} {Q : zX → Nat → AV → zX → Nat → Prop} (hf : C.P.funcs[f]? = some fn) (hb : fn.body = some c)
    (hw : ∀ (h : zX) (nx : Nat), Fr nx h → (∀ j, h j ≠ none → j < nx) → Pre h nx → goC C c ⟨argT args, h, nx⟩ (.fin (RetQ C fn.results.toList (Q h nx))))
    (hname : (fn.name == "runtime.NumGoroutine") = false := by rfl) (hc : zB9 fn.ntmps c = true := by kernel_rfl) (hargs : args.length ≤ fn.ntmps := by exact Nat.le_of_ble_eq_true rfl) : AC C.P f args Pre Q := AC.of ok hf hb hname hc hargs hw

theorem vB {C : Ctx} {n d g args} {Pre : zX → Nat → Prop} {Q : zX → Nat → AV → zX → Nat → Prop} {st : St} (hc : AC C.P g args Pre Q) (hp : Pre st.h st.nx)
    (hr : ∀ r h' n', Q st.h st.nx r h' n' → st.nx ≤ n' → Fr n' h' → uY C n (({ st with h := h', nx := n' } : St).put d r)) : zG C n d g args st :=
  (hc st.h st.nx hp).mono fun r h' n' ⟨h1, h2, h3⟩ => hr r h' n' h1 h2 h3

def fillZ {α : Type} (f : α → Nat → List AV) (z : List AV) (xs : List α) (is : List Nat) : List (List AV) := List.zipWith f xs is ++ List.replicate (xs.length - is.length) z
section
variable {α : Type} {f : α → Nat → List AV} {z : List AV} {xs : List α} {is : List Nat}
theorem fillZ_0 : fillZ f z xs [] = List.replicate xs.length z := by simp [fillZ]
theorem fillZ_end (h : is.length = xs.length) : fillZ f z xs is = List.zipWith f xs is := by simp [fillZ, h]
theorem fillZ_get (h : is.length < xs.length) : (fillZ f z xs is)[is.length]? = some z := by
  unfold fillZ
  rw [List.getElem?_append_right (by simp; omega)]
  simp [List.getElem?_replicate]; omega
theorem fillZ_set [Inhabited α] (h : is.length < xs.length) (id : Nat) : (fillZ f z xs is).set is.length (f (gt xs (is.length : Int)) id) = fillZ f z xs (is ++ [id]) := by
  unfold fillZ
  have e : (List.zipWith f xs is).length = is.length := by simp; omega
  have e2 : List.zipWith f xs (is ++ [id]) = List.zipWith f xs is ++ [f (gt xs (is.length : Int)) id] := by
    apply List.ext_getElem? 
    intro j
    rw [List.getElem?_zipWith]
    by_cases hj : j < is.length
    · rw [List.getElem?_append_left hj, List.getElem?_append_left (by rw [e]; exact hj), List.getElem?_zipWith]
    · rw [List.getElem?_append_right (by omega), List.getElem?_append_right (by rw [e]; omega), e]
      by_cases hj2 : j = is.length
      · subst hj2
        rw [List.getElem?_eq_getElem h, vW h]; simp
      · have : j - is.length ≠ 0 := by omega
        obtain ⟨k, hk⟩ := Nat.exists_eq_succ_of_ne_zero this
        rw [hk]; simp
  rw [List.set_append_right _ _ (by omega), e, Nat.sub_self, e2]
  have : xs.length - is.length = (xs.length - (is.length + 1)) + 1 := by omega
  rw [this, List.replicate_succ, List.set_cons_zero, List.append_assoc]
  simp
end
structure Subs {α : Type} (h : zX) (sz : Nat) (c : α → List (List AV)) (xs : List α) (is : List Nat) (lo hi : Nat) : Prop where
  row : ∀ (j : Nat) x id, xs[j]? = some x → is[j]? = some id → h id = some (.row sz (c x))
  nd : is.Nodup
  lo : ∀ id ∈ is, lo ≤ id
  hi : ∀ id ∈ is, id < hi
theorem Subs.nil {α : Type} {h : zX} {sz c lo hi} {xs : List α} : Subs h sz c xs [] lo hi := ⟨fun j x id _ h => by simp at h, List.nodup_nil, fun id h => by simp at h, fun id h => by simp at h⟩
theorem Subs.snoc {α : Type} [Inhabited α] {h h' : zX} {sz c lo hi hi'} {xs : List α} {is : List Nat} {id : Nat} (s : Subs h sz c xs is lo hi) (hk : ∀ i ∈ is, h' i = h i) (hn : h' id = some (.row sz (c (gt xs (is.length : Int))))) (hl : lo ≤ id) (h1 : hi ≤ id) (h2 : id < hi') :
    Subs h' sz c xs (is ++ [id]) lo hi' where
  row j x i hx hi2 := by
    by_cases hj : j < is.length
    · rw [List.getElem?_append_left hj] at hi2
      rw [hk i (List.mem_of_getElem? hi2)]; exact s.row j x i hx hi2
    · rw [List.getElem?_append_right (by omega)] at hi2
      by_cases hj2 : j = is.length
      · subst hj2
        simp at hi2; subst hi2
        have hlt := (List.getElem?_eq_some_iff.1 hx).1
        rw [List.getElem?_eq_getElem hlt] at hx; cases hx
        rw [hn, vW hlt]
      · have : j - is.length ≠ 0 := by omega
        obtain ⟨k, hk⟩ := Nat.exists_eq_succ_of_ne_zero this
        rw [hk] at hi2; simp at hi2
  nd := by
    rw [List.nodup_append]
    refine ⟨s.nd, by simp, fun a ha b hb => ?_⟩
    simp at hb; subst hb
    have := s.hi a ha; omega
  lo i hi2 := by
    rcases List.mem_append.1 hi2 with h | h
    · exact s.lo i h
    · simp at h; omega
  hi i hi2 := by
    rcases List.mem_append.1 hi2 with h | h
    · have := s.hi i h; omega
    · simp at h; omega
theorem Subs.keep {α : Type} {h h' : zX} {sz c lo hi lo' hi'} {xs : List α} {is : List Nat} (s : Subs h sz c xs is lo hi) (hk : ∀ i ∈ is, h' i = h i) (h1 : lo' ≤ lo) (h2 : hi ≤ hi') : Subs h' sz c xs is lo' hi' :=
  ⟨fun j x id hx hi => by rw [hk id (List.mem_of_getElem? hi)]; exact s.row j x id hx hi, s.nd, fun i hi => by have := s.lo i hi; omega, fun i hi => by have := s.hi i hi; omega⟩
theorem zF1 {C : Ctx} {n d dT p idx sz xs vs cells} {st : St} (hp : st.h p = some (.row sz xs)) (hf : frz st.h vs = some (vs, st.h)) (hl : vs.length = dT.size) (hz : dT.size = sz) (hc : xs[idx]? = some cells) (hcl : cells.length = sz)
    (hr : uY C n ({ st with h := upd st.h p (some (.row sz (xs.set idx vs))) }.put d .dead)) : vZ C n d dT p idx 0 vs st := by
  refine storeE_row hf hp hl (by omega) hc ?_
  have e : splice cells 0 vs = vs := by simp [splice]; omega
  rw [e]; exact hr
def WI.ofL (L pg gr : List Nat) : WI := ⟨fun k => L.getD k 0, pg, gr⟩
theorem WI.ofL_ids {t0 t1 t2 t3 t4 t5 t6 t7 t8 t9 t10 t11 t12 t13 t14 : Nat} {pg gr : List Nat} : (WI.ofL [t0, t1, t2, t3, t4, t5, t6, t7, t8, t9, t10, t11, t12, t13, t14] pg gr).ids = [t0, t1, t2, t3, t4, t5, t6, t7, t8, t9, t10, t11, t12, t13, t14] ++ (pg ++ gr) := rfl
theorem WV.ofL {H : zX} {w : Wld} {t0 t1 t2 t3 t4 t5 t6 t7 t8 t9 t10 t11 t12 t13 t14 : Nat} {pg gr : List Nat} {a b c d : Nat}
    (r0 : H t0 = some (.row 1 (List.zipWith prgR w.progs pg))) (r1 : H t1 = some (.row 5 (w.tree.map vE))) (r2 : H t2 = some (.row 4 (w.events.map vK))) (r3 : H t3 = some (.row 1 (w.spread.told.map bv))) (r4 : H t4 = some (.row 1 (w.spread.work.map iv)))
    (r5 : H t5 = some (.row 3 (w.timers.heap.map yX))) (r6 : H t6 = some (.row 5 (w.timers.list.map vN))) (r7 : H t7 = some (.row 1 (w.afters.slots.ages.map iv))) (r8 : H t8 = some (.row 1 (w.afters.slots.used.map bv))) (r9 : H t9 = some (.row 5 (w.afters.list.map yI)))
    (r10 : H t10 = some (.row 9 (w.tasks.map vQ))) (r11 : H t11 = some (.row 5 (List.zipWith uL w.groups gr))) (r12 : H t12 = some (.row 4 (w.sights.map uP))) (r13 : H t13 = some (.row 1 (w.began.map iv))) (r14 : H t14 = some (.row 1 (w.rang.map iv)))
    (pl : pg.length = w.progs.length) (gl : gr.length = w.groups.length) (sp : Subs H 3 (fun x : List Inn => x.map vU) w.progs pg a b) (sg : Subs H 1 (fun x : Grp => x.waits.map iv) w.groups gr c d) (hbc : b ≤ c)
    (nt : [t0, t1, t2, t3, t4, t5, t6, t7, t8, t9, t10, t11, t12, t13, t14].Nodup) (np : ∀ t ∈ [t0, t1, t2, t3, t4, t5, t6, t7, t8, t9, t10, t11, t12, t13, t14], ¬ (a ≤ t ∧ t < b) ∧ ¬ (c ≤ t ∧ t < d)) :
    WV H (WI.ofL [t0, t1, t2, t3, t4, t5, t6, t7, t8, t9, t10, t11, t12, t13, t14] pg gr) w where
  top k hk := by
    match k, hk with
    | 0, _ => exact r0
    | 1, _ => exact r1
    | 2, _ => exact r2
    | 3, _ => exact r3
    | 4, _ => exact r4
    | 5, _ => exact r5
    | 6, _ => exact r6
    | 7, _ => exact r7
    | 8, _ => exact r8
    | 9, _ => exact r9
    | 10, _ => exact r10
    | 11, _ => exact r11
    | 12, _ => exact r12
    | 13, _ => exact r13
    | 14, _ => exact r14
    | _ + 15, hk => omega
  pl := pl
  gl := gl
  prog j p id hp hi := sp.row j p id hp hi
  wait j g id hg hi := sg.row j g id hg hi
  nd := by
    rw [WI.ofL_ids, List.nodup_append]
    refine ⟨nt, ?_, fun x hx y hy => ?_⟩
    · rw [List.nodup_append]
      exact ⟨sp.nd, sg.nd, fun x hx y hy => by have := sp.hi x hx; have := sg.lo y hy; omega⟩
    · have := np x hx
      rcases List.mem_append.1 hy with hy | hy
      · have := sp.lo y hy
        have := sp.hi y hy
        omega
      · have := sg.lo y hy
        have := sg.hi y hy
        omega
end Go.AE
end

section
/- Abstract machine: rows that are marked from their beginning on, field by field. -/
namespace Go.AE
set_option linter.unusedVariables false
def yH {α : Type} (mk : Int → α) (sz : Nat) (k : Int) (n : Nat) : List α := (List.range n).map fun (j : Nat) => mk (k + (sz : Int) * (j : Int))
def uJ {α : Type} (f : α → List AV) (mk : Int → α) (sz : Nat) (k : Int) (xs : List α) (i : Nat) : List (List AV) := (yH mk sz k i).map f ++ (xs.drop i).map f
section
variable {α : Type} {f : α → List AV} {mk : Int → α} {sz : Nat} {k : Int} {xs : List α} {i : Nat}
@[simp] theorem markL_len {n : Nat} : (yH mk sz k n).length = n := by simp [yH]
theorem markL_succ {n : Nat} : yH mk sz k (n + 1) = yH mk sz k n ++ [mk (k + sz * n)] := by simp [yH, List.range_succ]
theorem zE3 [Inhabited α] {n : Nat} (h : i < n) : gt (yH mk sz k n) (i : Int) = mk (k + sz * i) := by
  rw [vW (by simpa using h)]; simp [yH]
theorem zG2 : uJ f mk sz k xs 0 = xs.map f := by simp [uJ, yH]
theorem zA9 (h : i ≤ xs.length) : (uJ f mk sz k xs i).length = xs.length := by simp [uJ]; omega
theorem zB7 (h : xs.length ≤ i) : uJ f mk sz k xs i = (yH mk sz k i).map f := by simp [uJ, List.drop_eq_nil_of_le h]
theorem markF_get [Inhabited α] (h : i < xs.length) : (uJ f mk sz k xs i)[i]? = some (f (gt xs (i : Int))) := by
  unfold uJ
  rw [List.getElem?_append_right (by simp)]
  simp only [List.length_map, markL_len, Nat.sub_self, List.getElem?_map, List.getElem?_drop, Nat.add_zero]
  rw [List.getElem?_eq_getElem h, vW h]; rfl
theorem zA5 [Inhabited α] (h : i < xs.length) : uJ f mk sz k xs i = (uJ f mk sz k xs i).set i (f (gt xs (i : Int))) := by
  apply List.ext_getElem?
  intro j
  by_cases hj : j = i
  · subst hj
    rw [List.getElem?_set_self (by rw [zA9 (by omega)]; exact h), markF_get h]
  · rw [List.getElem?_set_ne (by omega)]
theorem zB8 (h : i < xs.length) : (uJ f mk sz k xs i).set i (f (mk (k + sz * i))) = uJ f mk sz k xs (i + 1) := by
  unfold uJ
  have e : (xs.drop i).map f = f xs[i] :: (xs.drop (i + 1)).map f := by rw [List.drop_eq_getElem_cons h]; rfl
  rw [List.set_append_right _ _ (by simp), markL_succ, e]
  simp [-List.map_drop]
end
theorem uE {C : Ctx} {n d dT p idx off sz} {xs : List (List AV)} {cells v} {st : St} (hp : st.h p = some (.row sz (xs.set idx cells))) (hi : idx < xs.length) (hf : frz st.h [v] = some ([v], st.h)) (hd : dT.size = 1) (ho : off + 1 ≤ sz)
    (hr : uY C n ({ st with h := upd st.h p (some (.row sz (xs.set idx (splice cells off [v])))) }.put d .dead)) : vZ C n d dT p idx off [v] st := by
  refine storeE_row hf hp (by simp [hd]) (by omega) (List.getElem?_set_self hi) ?_
  rw [List.set_set]; exact hr
end Go.AE
end

section
/- Abstract machine: programs and groups that are marked, in rows that hold the names of rows. -/
namespace Go.AE
set_option linter.unusedVariables false
def mkInn' (k : Int) : Inn := ⟨k, k + 1, k + 2⟩
def vY : List (List Inn) → Int → List (List Inn)
  | [], _ => []
  | p :: ps, k => yH mkInn' 3 k p.length :: vY ps (k + 3 * p.length)
def mkGrp (g : Grp) (k : Int) : Grp := ⟨k, k + 1, k + 2, yH (fun x => x) 1 (k + 3) g.waits.length, k + 3 + g.waits.length⟩
def zC5 : List Grp → Int → List Grp
  | [], _ => []
  | g :: gs, k => mkGrp g k :: zC5 gs (k + 4 + g.waits.length)
theorem vO : ∀ (l : List (List Inn)) (k : Int), (vY l k).length = l.length
  | [], _ => rfl
  | p :: ps, k => by simp [vY, vO ps]
theorem vX : ∀ (l : List Grp) (k : Int), (zC5 l k).length = l.length
  | [], _ => rfl
  | g :: gs, k => by simp [zC5, vX gs]
theorem zL1 : ∀ (l l2 : List (List Inn)) (k : Int), vY (l ++ l2) k = vY l k ++ vY l2 (k + 3 * zA4 (·.length) l)
  | [], l2, k => by simp [vY, zA4]
  | p :: ps, l2, k => by
    simp only [List.cons_append, vY, zL1 ps, zA4]
    congr 2
    congr 1
    omega
@[simp] theorem lsum_nil {α : Type} (f : α → Nat) : zA4 f [] = 0 := rfl
theorem uX {α : Type} (f : α → Nat) : ∀ (xs : List α) (i : Nat), zA4 f (xs.take i) ≤ zA4 f xs
  | [], _ => by simp
  | x :: xs, 0 => by simp
  | x :: xs, i + 1 => by
    have := uX f xs i
    simp only [List.take_succ_cons, zA4]; omega
def zH9 (xs : List (List Inn)) (k : Int) (i : Nat) : List (List Inn) := vY (xs.take i) k ++ xs.drop i
theorem zI2 {α : Type} (f : α → Nat) : ∀ (xs : List α) (i : Nat) (h : i < xs.length), zA4 f (xs.take (i + 1)) = zA4 f (xs.take i) + f xs[i]
  | x :: xs, 0, _ => by simp [zA4]
  | x :: xs, i + 1, h => by
    have := zI2 f xs i (by simpa using h)
    simp only [List.take_succ_cons, zA4, List.getElem_cons_succ, this]
    omega
theorem mkUpto_get {xs : List (List Inn)} {k : Int} {i : Nat} (h : i < xs.length) : (zH9 xs k i)[i]? = some xs[i] := by
  unfold zH9
  rw [List.getElem?_append_right (by rw [vO]; simp; omega), vO]
  have : i - (List.take i xs).length = 0 := by simp; omega
  rw [this, List.getElem?_drop, Nat.add_zero, List.getElem?_eq_getElem h]
theorem mkUpto_succ {xs : List (List Inn)} {k : Int} {i : Nat} (h : i < xs.length) : zH9 xs k (i + 1) = (zH9 xs k i).set i (yH mkInn' 3 (k + 3 * zA4 (·.length) (xs.take i)) xs[i].length) := by
  unfold zH9
  rw [List.take_add_one, List.getElem?_eq_getElem h]
  simp only [Option.toList]
  rw [zL1, List.set_append_right _ _ (by rw [vO]; simp; omega), vO]
  have : i - (List.take i xs).length = 0 := by simp; omega
  rw [this]
  simp [vY]
  rw [List.drop_eq_getElem_cons h, List.set_cons_zero]
theorem Subs.set {α : Type} {h h' : zX} {sz c lo hi} {xs : List α} {is : List Nat} {i id : Nat} {x : α} (s : Subs h sz c xs is lo hi) (hid : is[i]? = some id) (hn : h' id = some (.row sz (c x))) (hk : ∀ j ∈ is, j ≠ id → h' j = h j) : Subs h' sz c (xs.set i x) is lo hi where
  row j y jd hy hj := by
    by_cases e : j = i
    · subst e
      rw [hid] at hj; cases hj
      by_cases hlt : j < xs.length
      · rw [List.getElem?_set_self hlt] at hy; cases hy; exact hn
      · rw [List.getElem?_eq_none (by simpa using hlt)] at hy; cases hy
    · rw [List.getElem?_set_ne (by omega)] at hy
      have hne : jd ≠ id := by
        intro e2
        subst e2
        have h1 := (List.getElem?_eq_some_iff.1 hid)
        have h2 := (List.getElem?_eq_some_iff.1 hj)
        obtain ⟨a1, a2⟩ := h1
        obtain ⟨b1, b2⟩ := h2
        have key := List.pairwise_iff_getElem.1 s.nd
        rcases Nat.lt_or_gt_of_ne e with hlt | hlt
        · exact key j i b1 a1 hlt (b2.trans a2.symm)
        · exact key i j a1 b1 hlt (a2.trans b2.symm)
      rw [hk jd (List.mem_of_getElem? hj) hne]
      exact s.row j y jd hy hj
  nd := s.nd
  lo := s.lo
  hi := s.hi
def zI0 (xs : List Grp) (k : Int) (i : Nat) : List Grp := zC5 (xs.take i) k ++ xs.drop i
abbrev gsz (g : Grp) : Nat := 4 + g.waits.length
theorem mkGrps_app : ∀ (l l2 : List Grp) (k : Int), zC5 (l ++ l2) k = zC5 l k ++ zC5 l2 (k + zA4 gsz l)
  | [], l2, k => by simp [zC5, zA4]
  | p :: ps, l2, k => by
    simp only [List.cons_append, zC5, mkGrps_app ps, zA4, gsz]
    congr 2
    congr 1
    omega
theorem gUpto_len {xs : List Grp} {k : Int} {i : Nat} (h : i ≤ xs.length) : (zI0 xs k i).length = xs.length := by
  unfold zI0; rw [List.length_append, vX]; simp; omega
theorem gUpto_get {xs : List Grp} {k : Int} {i : Nat} (h : i < xs.length) : (zI0 xs k i)[i]? = some xs[i] := by
  unfold zI0
  rw [List.getElem?_append_right (by rw [vX]; simp; omega), vX]
  have : i - (List.take i xs).length = 0 := by simp; omega
  rw [this, List.getElem?_drop, Nat.add_zero, List.getElem?_eq_getElem h]
theorem gUpto_succ {xs : List Grp} {k : Int} {i : Nat} (h : i < xs.length) : zI0 xs k (i + 1) = (zI0 xs k i).set i (mkGrp xs[i] (k + zA4 gsz (xs.take i))) := by
  unfold zI0
  rw [List.take_add_one, List.getElem?_eq_getElem h]
  simp only [Option.toList]
  rw [mkGrps_app, List.set_append_right _ _ (by rw [vX]; simp; omega), vX]
  have : i - (List.take i xs).length = 0 := by simp; omega
  rw [this]
  simp [zC5]
  rw [List.drop_eq_getElem_cons h, List.set_cons_zero]
theorem zip_set {α : Type} {f : α → Nat → List AV} : ∀ (xs : List α) (is : List Nat) (i : Nat) (y : α) (id : Nat), is[i]? = some id → List.zipWith f (xs.set i y) is = (List.zipWith f xs is).set i (f y id)
  | [], is, i, y, id, _ => by simp
  | x :: xs, [], i, y, id, h => by simp at h
  | x :: xs, a :: is, 0, y, id, h => by simp at h; subst h; simp
  | x :: xs, a :: is, i + 1, y, id, h => by
    simp only [List.set_cons_succ, List.zipWith_cons_cons]
    rw [zip_set xs is i y id (by simpa using h)]
theorem set_self {α : Type} {l : List α} {i : Nat} {x : α} (h : l[i]? = some x) : l = l.set i x := by
  apply List.ext_getElem?
  intro j
  by_cases hj : j = i
  · subst hj
    rw [List.getElem?_set_self (List.getElem?_eq_some_iff.1 h).1, h]
  · rw [List.getElem?_set_ne (by omega)]
end Go.AE
end

section
/- Abstract machine: one row of a world changes. -/
namespace Go.AE
set_option linter.unusedVariables false
theorem WI.top_mem {X : WI} {k : Nat} (h : k < 15) : X.top k ∈ X.ids := by
  simp only [WI.ids, List.mem_append, List.mem_map, List.mem_range]; exact .inl ⟨k, h, rfl⟩
theorem WI.pg_mem {X : WI} {i : Nat} (h : i ∈ X.pg) : i ∈ X.ids := by
  simp only [WI.ids, List.mem_append]; exact .inr (.inl h)
theorem WI.gr_mem {X : WI} {i : Nat} (h : i ∈ X.gr) : i ∈ X.ids := by
  simp only [WI.ids, List.mem_append]; exact .inr (.inr h)
theorem WV.top_pg {h X w} (v : WV h X w) {k : Nat} (hk : k < 15) : X.top k ∉ X.pg := fun hm => by
  obtain ⟨_, _, h3⟩ := List.nodup_append.1 v.nd
  exact h3 (X.top k) (List.mem_map.2 ⟨k, by simpa using hk, rfl⟩) (X.top k) (List.mem_append.2 (.inl hm)) rfl
theorem WV.top_gr {h X w} (v : WV h X w) {k : Nat} (hk : k < 15) : X.top k ∉ X.gr := fun hm => by
  obtain ⟨_, _, h3⟩ := List.nodup_append.1 v.nd
  exact h3 (X.top k) (List.mem_map.2 ⟨k, by simpa using hk, rfl⟩) (X.top k) (List.mem_append.2 (.inr hm)) rfl
theorem WV.setTop {h h' : zX} {X : WI} {w w' : Wld} {i : Nat} (v : WV h X w) (hi : i < 15) (hr : h' (X.top i) = some (zM1 X w' i)) (ho : ∀ k, k < 15 → k ≠ i → zM1 X w' k = zM1 X w k) (hp : w'.progs = w.progs) (hg : w'.groups = w.groups)
    (hf : ∀ j ∈ X.ids, j ≠ X.top i → h' j = h j) : WV h' X w' where
  top k hk := by
    by_cases e : k = i
    · subst e; exact hr
    · rw [ho k hk e, hf _ (WI.top_mem hk) (fun e2 => e (v.top_inj hk hi e2))]; exact v.top k hk
  pl := by rw [hp]; exact v.pl
  gl := by rw [hg]; exact v.gl
  prog j p id h1 h2 := by
    rw [hp] at h1
    have hm := List.mem_of_getElem? h2
    rw [hf id (WI.pg_mem hm) (fun e => v.top_pg hi (e ▸ hm))]
    exact v.prog j p id h1 h2
  wait j g id h1 h2 := by
    rw [hg] at h1
    have hm := List.mem_of_getElem? h2
    rw [hf id (WI.gr_mem hm) (fun e => v.top_gr hi (e ▸ hm))]
    exact v.wait j g id h1 h2
  nd := v.nd
theorem WV.pg_gr {h X w} (v : WV h X w) {i : Nat} (hi : i ∈ X.pg) : i ∉ X.gr := fun hm => by
  have h2 := (List.nodup_append.1 v.nd).2.1
  obtain ⟨_, _, h3⟩ := List.nodup_append.1 h2
  exact h3 i hi i hm rfl
theorem WV.subsP {h X w} {n : Nat} (v : WV h X w) (hn : ∀ j ∈ X.ids, j < n) : Subs h 3 (fun x : List Inn => x.map vU) w.progs X.pg 0 n :=
  ⟨fun j x id h1 h2 => v.prog j x id h1 h2, (List.nodup_append.1 (List.nodup_append.1 v.nd).2.1).1, fun _ _ => Nat.zero_le _, fun id hid => hn id (WI.pg_mem hid)⟩
theorem WV.subsG {h X w} {n : Nat} (v : WV h X w) (hn : ∀ j ∈ X.ids, j < n) : Subs h 1 (fun x : Grp => x.waits.map iv) w.groups X.gr 0 n :=
  ⟨fun j x id h1 h2 => v.wait j x id h1 h2, (List.nodup_append.1 (List.nodup_append.1 v.nd).2.1).2.1, fun _ _ => Nat.zero_le _, fun id hid => hn id (WI.gr_mem hid)⟩
theorem WV.setProgs {h h' : zX} {X : WI} {w w' : Wld} {lo hi : Nat} (v : WV h X w) (hs : Subs h' 3 (fun x : List Inn => x.map vU) w'.progs X.pg lo hi) (hl : w'.progs.length = w.progs.length) (hr : h' (X.top 0) = some (zM1 X w' 0))
    (ho : ∀ k, k < 15 → k ≠ 0 → zM1 X w' k = zM1 X w k) (hg : w'.groups = w.groups) (hf : ∀ j ∈ X.ids, j ∉ X.pg → j ≠ X.top 0 → h' j = h j) : WV h' X w' where
  top k hk := by
    by_cases e : k = 0
    · subst e; exact hr
    · rw [ho k hk e, hf _ (WI.top_mem hk) (v.top_pg hk) (fun e2 => e (v.top_inj hk (by omega) e2))]; exact v.top k hk
  pl := by rw [hl]; exact v.pl
  gl := by rw [hg]; exact v.gl
  prog j p id h1 h2 := hs.row j p id h1 h2
  wait j g id h1 h2 := by
    rw [hg] at h1
    have hm := List.mem_of_getElem? h2
    rw [hf id (WI.gr_mem hm) (fun e => v.pg_gr e hm) (fun e => v.top_gr (by omega) (e ▸ hm))]
    exact v.wait j g id h1 h2
  nd := v.nd
theorem WV.setGroups {h h' : zX} {X : WI} {w w' : Wld} {lo hi : Nat} (v : WV h X w) (hs : Subs h' 1 (fun x : Grp => x.waits.map iv) w'.groups X.gr lo hi) (hl : w'.groups.length = w.groups.length) (hr : h' (X.top 11) = some (zM1 X w' 11))
    (ho : ∀ k, k < 15 → k ≠ 11 → zM1 X w' k = zM1 X w k) (hp : w'.progs = w.progs) (hf : ∀ j ∈ X.ids, j ∉ X.gr → j ≠ X.top 11 → h' j = h j) : WV h' X w' where
  top k hk := by
    by_cases e : k = 11
    · subst e; exact hr
    · rw [ho k hk e, hf _ (WI.top_mem hk) (v.top_gr hk) (fun e2 => e (v.top_inj hk (by omega) e2))]; exact v.top k hk
  pl := by rw [hp]; exact v.pl
  gl := by rw [hl]; exact v.gl
  prog j p id h1 h2 := by
    rw [hp] at h1
    have hm := List.mem_of_getElem? h2
    rw [hf id (WI.pg_mem hm) (fun e => v.pg_gr hm e) (fun e => v.top_pg (by omega) (e ▸ hm))]
    exact v.prog j p id h1 h2
  wait j g id h1 h2 := hs.row j g id h1 h2
  nd := v.nd
end Go.AE
end

section
/- Abstract machine: a world of which some lists change. -/
namespace Go.AE
set_option linter.unusedVariables false
theorem lt15 {k : Nat} (h : k < 15) : k = 0 ∨ k = 1 ∨ k = 2 ∨ k = 3 ∨ k = 4 ∨ k = 5 ∨ k = 6 ∨ k = 7 ∨ k = 8 ∨ k = 9 ∨ k = 10 ∨ k = 11 ∨ k = 12 ∨ k = 13 ∨ k = 14 := by omega
theorem WV.setTops {h h' : zX} {X : WI} {w w' : Wld} (S : List Nat) (v : WV h X w) (hi : ∀ i ∈ S, i < 15) (hr : ∀ i ∈ S, h' (X.top i) = some (zM1 X w' i)) (ho : ∀ k, k < 15 → k ∉ S → zM1 X w' k = zM1 X w k) (hp : w'.progs = w.progs) (hg : w'.groups = w.groups)
    (hf : ∀ j ∈ X.ids, (∀ i ∈ S, j ≠ X.top i) → h' j = h j) : WV h' X w' where
  top k hk := by
    by_cases e : k ∈ S
    · exact hr k e
    · rw [ho k hk e, hf _ (WI.top_mem hk) (fun i hi2 e2 => e (v.top_inj hk (hi i hi2) e2 ▸ hi2))]; exact v.top k hk
  pl := by rw [hp]; exact v.pl
  gl := by rw [hg]; exact v.gl
  prog j p id h1 h2 := by
    rw [hp] at h1
    have hm := List.mem_of_getElem? h2
    rw [hf id (WI.pg_mem hm) (fun i hi2 e => v.top_pg (hi i hi2) (e ▸ hm))]
    exact v.prog j p id h1 h2
  wait j g id h1 h2 := by
    rw [hg] at h1
    have hm := List.mem_of_getElem? h2
    rw [hf id (WI.gr_mem hm) (fun i hi2 e => v.top_gr (hi i hi2) (e ▸ hm))]
    exact v.wait j g id h1 h2
  nd := v.nd
section
variable {h h' : zX} {X : WI} {w : Wld}
theorem WV.setTree {l : List Nod} (v : WV h X w) (hr : h' (X.top 1) = some (.row 5 (l.map vE))) (hf : ∀ j ∈ X.ids, j ≠ X.top 1 → h' j = h j) : WV h' X { w with tree := l } :=
  v.setTop (i := 1) (by omega) hr (fun k hk hne => by rcases lt15 hk with rfl | rfl | rfl | rfl | rfl | rfl | rfl | rfl | rfl | rfl | rfl | rfl | rfl | rfl | rfl <;> first | exact absurd rfl hne | rfl) rfl rfl hf
theorem WV.setEvents {l : List Evt} (v : WV h X w) (hr : h' (X.top 2) = some (.row 4 (l.map vK))) (hf : ∀ j ∈ X.ids, j ≠ X.top 2 → h' j = h j) : WV h' X { w with events := l } :=
  v.setTop (i := 2) (by omega) hr (fun k hk hne => by rcases lt15 hk with rfl | rfl | rfl | rfl | rfl | rfl | rfl | rfl | rfl | rfl | rfl | rfl | rfl | rfl | rfl <;> first | exact absurd rfl hne | rfl) rfl rfl hf
theorem WV.setTasks {l : List Tsk} (v : WV h X w) (hr : h' (X.top 10) = some (.row 9 (l.map vQ))) (hf : ∀ j ∈ X.ids, j ≠ X.top 10 → h' j = h j) : WV h' X { w with tasks := l } :=
  v.setTop (i := 10) (by omega) hr (fun k hk hne => by rcases lt15 hk with rfl | rfl | rfl | rfl | rfl | rfl | rfl | rfl | rfl | rfl | rfl | rfl | rfl | rfl | rfl <;> first | exact absurd rfl hne | rfl) rfl rfl hf
theorem WV.setSights {l : List Sgt} (v : WV h X w) (hr : h' (X.top 12) = some (.row 4 (l.map uP))) (hf : ∀ j ∈ X.ids, j ≠ X.top 12 → h' j = h j) : WV h' X { w with sights := l } :=
  v.setTop (i := 12) (by omega) hr (fun k hk hne => by rcases lt15 hk with rfl | rfl | rfl | rfl | rfl | rfl | rfl | rfl | rfl | rfl | rfl | rfl | rfl | rfl | rfl <;> first | exact absurd rfl hne | rfl) rfl rfl hf
theorem WV.setBegan {l : List Int} (v : WV h X w) (hr : h' (X.top 13) = some (.row 1 (l.map iv))) (hf : ∀ j ∈ X.ids, j ≠ X.top 13 → h' j = h j) : WV h' X { w with began := l } :=
  v.setTop (i := 13) (by omega) hr (fun k hk hne => by rcases lt15 hk with rfl | rfl | rfl | rfl | rfl | rfl | rfl | rfl | rfl | rfl | rfl | rfl | rfl | rfl | rfl <;> first | exact absurd rfl hne | rfl) rfl rfl hf
theorem WV.setRang {l : List Int} (v : WV h X w) (hr : h' (X.top 14) = some (.row 1 (l.map iv))) (hf : ∀ j ∈ X.ids, j ≠ X.top 14 → h' j = h j) : WV h' X { w with rang := l } :=
  v.setTop (i := 14) (by omega) hr (fun k hk hne => by rcases lt15 hk with rfl | rfl | rfl | rfl | rfl | rfl | rfl | rfl | rfl | rfl | rfl | rfl | rfl | rfl | rfl <;> first | exact absurd rfl hne | rfl) rfl rfl hf
theorem WV.setSpread {s : Spr} (v : WV h X w) (r3 : h' (X.top 3) = some (.row 1 (s.told.map bv))) (r4 : h' (X.top 4) = some (.row 1 (s.work.map iv))) (hf : ∀ j ∈ X.ids, j ≠ X.top 3 → j ≠ X.top 4 → h' j = h j) : WV h' X { w with spread := s } :=
  v.setTops [3, 4] (by simp) (by simp only [List.mem_cons, List.not_mem_nil, or_false, forall_eq_or_imp, forall_eq]; exact ⟨r3, r4⟩) (fun k hk hne => by rcases lt15 hk with rfl | rfl | rfl | rfl | rfl | rfl | rfl | rfl | rfl | rfl | rfl | rfl | rfl | rfl | rfl <;> first | rfl | exact absurd (by decide) hne) rfl rfl (fun j hj hn => hf j hj (hn 3 (by simp)) (hn 4 (by simp)))
theorem WV.setTimers {s : Tms} (v : WV h X w) (r5 : h' (X.top 5) = some (.row 3 (s.heap.map yX))) (r6 : h' (X.top 6) = some (.row 5 (s.list.map vN))) (hf : ∀ j ∈ X.ids, j ≠ X.top 5 → j ≠ X.top 6 → h' j = h j) : WV h' X { w with timers := s } :=
  v.setTops [5, 6] (by simp) (by simp only [List.mem_cons, List.not_mem_nil, or_false, forall_eq_or_imp, forall_eq]; exact ⟨r5, r6⟩) (fun k hk hne => by rcases lt15 hk with rfl | rfl | rfl | rfl | rfl | rfl | rfl | rfl | rfl | rfl | rfl | rfl | rfl | rfl | rfl <;> first | rfl | exact absurd (by decide) hne) rfl rfl (fun j hj hn => hf j hj (hn 5 (by simp)) (hn 6 (by simp)))
theorem WV.setAfters {s : Afs} (v : WV h X w) (r7 : h' (X.top 7) = some (.row 1 (s.slots.ages.map iv))) (r8 : h' (X.top 8) = some (.row 1 (s.slots.used.map bv))) (r9 : h' (X.top 9) = some (.row 5 (s.list.map yI))) (hf : ∀ j ∈ X.ids, j ≠ X.top 7 → j ≠ X.top 8 → j ≠ X.top 9 → h' j = h j) : WV h' X { w with afters := s } :=
  v.setTops [7, 8, 9] (by simp) (by simp only [List.mem_cons, List.not_mem_nil, or_false, forall_eq_or_imp, forall_eq]; exact ⟨r7, r8, r9⟩) (fun k hk hne => by rcases lt15 hk with rfl | rfl | rfl | rfl | rfl | rfl | rfl | rfl | rfl | rfl | rfl | rfl | rfl | rfl | rfl <;> first | rfl | exact absurd (by decide) hne) rfl rfl (fun j hj hn => hf j hj (hn 7 (by simp)) (hn 8 (by simp)) (hn 9 (by simp)))
end
theorem WV.lt {h : zX} {X : WI} {w : Wld} {n : Nat} (v : WV h X w) (hn : ∀ j, h j ≠ none → j < n) : ∀ j ∈ X.ids, j < n := by
  intro j hj
  apply hn
  simp only [WI.ids, List.mem_append, List.mem_map, List.mem_range] at hj
  rcases hj with ⟨k, hk, rfl⟩ | hj | hj
  · rw [v.top k hk]; simp
  · obtain ⟨m, hm, rfl⟩ := List.getElem_of_mem hj
    rw [v.prog m (w.progs[m]'(by have := v.pl; omega)) X.pg[m] (List.getElem?_eq_getElem (by have := v.pl; omega)) (List.getElem?_eq_getElem hm)]; simp
  · obtain ⟨m, hm, rfl⟩ := List.getElem_of_mem hj
    rw [v.wait m (w.groups[m]'(by have := v.gl; omega)) X.gr[m] (List.getElem?_eq_getElem (by have := v.gl; omega)) (List.getElem?_eq_getElem hm)]; simp
theorem zip_mkProgs : ∀ (xs : List (List Inn)) (is : List Nat) (k : Int), List.zipWith prgR (vY xs k) is = List.zipWith prgR xs is
  | [], is, k => by simp [vY]
  | x :: xs, [], k => by simp
  | x :: xs, i :: is, k => by simp [vY, prgR, zip_mkProgs xs is]
end Go.AE
end

section
/- Abstract machine: what a callee leaves behind is forgotten; a callee that makes a world and reads its arguments through views. -/
namespace Go.AE
set_option linter.unusedVariables false
theorem Ext.sub {h : zX} {ρ : yP} {I : Imm} {w : World} {h' g : zX} {ρ' : yP} {I' : Imm} {w' : World} (E : Ext h ρ I w h' ρ' I' w') (hs : ∀ id e, g id = some e → h' id = some e) : Ext h ρ I w g ρ' I' w' :=
  ⟨E.rho, E.imm, E.bor, E.immN, fun b ⟨id, e, B, h1, h2, h3⟩ => E.own b ⟨id, e, B, hs _ _ h1, h2, h3⟩, E.os, E.tape, E.output, E.size, E.frame⟩
theorem ACall.sub {P f args h nx} {Q : AV → zX → Nat → Prop} (hc : ACall P f args h nx fun r h' nx' => ∃ g : zX, (∀ id e, g id = some e → h' id = some e) ∧ Q r g nx') : ACall P f args h nx Q :=
  ⟨hc.1, fun ρ I w vs h1 h2 h3 => (hc.2 ρ I w vs h1 h2 h3).mono fun e w' ⟨v, r, h', nx', ρ', I', g1, ⟨g, hg, hq⟩, g3, g4, g5, g6, g7, g8⟩ => ⟨v, r, g, nx', ρ', I', g1, hq, g3, g4.sub hg, g5.sub hg, g6, g7, g8⟩⟩

inductive NV : AV → AV → Prop
  | same (x) : NV x x
  | nil (p sz) : NV .nil (.view p sz [])
  | agg (cs ds : List AV) : ds.length = cs.length → (∀ (i : Nat) x y, cs[i]? = some x → ds[i]? = some y → NV x y) → NV (.agg cs) (.agg ds)
  | tup (cs ds : List AV) : ds.length = cs.length → (∀ (i : Nat) x y, cs[i]? = some x → ds[i]? = some y → NV x y) → NV (.tup cs) (.tup ds)
theorem NV.vr {ρ : yP} {I : Imm} {w : World} {x y : AV} {u : Value} (hn : NV x y) : VR ρ I w x u → VR ρ I w y u := by
  induction hn generalizing u with
  | same x => exact id
  | nil p sz => intro hv; rw [hv.nil_inv]; exact .viewNil ..
  | agg cs ds hl hc ih =>
    intro hv
    cases hv with
    | agg _ vs h1 h2 =>
      refine .agg _ vs (by omega) fun i y u hy hu => ?_
      have hi := (List.getElem?_eq_some_iff.1 hy).1
      have hx := List.getElem?_eq_getElem (l := cs) (i := i) (by omega)
      exact ih i _ y hx hy (h2 i _ u hx hu)
  | tup cs ds hl hc ih =>
    intro hv
    cases hv with
    | tup _ vs h1 h2 =>
      refine .tup _ vs (by omega) fun i y u hy hu => ?_
      have hi := (List.getElem?_eq_some_iff.1 hy).1
      have hx := List.getElem?_eq_getElem (l := cs) (i := i) (by omega)
      exact ih i _ y hx hy (h2 i _ u hx hu)
inductive NVs : List AV → List AV → Prop
  | nil : NVs [] []
  | cons {x y xs ys} : NV x y → NVs xs ys → NVs (x :: xs) (y :: ys)
theorem NVs.len {xs ys : List AV} (b : NVs xs ys) : ys.length = xs.length := by
  induction b with
  | nil => rfl
  | cons _ _ ih => simp [ih]
theorem NVs.get {xs ys : List AV} (b : NVs xs ys) : ∀ (i : Nat) x y, xs[i]? = some x → ys[i]? = some y → NV x y := by
  induction b with
  | nil => intro i x y h; simp at h
  | cons hb _ ih =>
    intro i x y hx hy
    cases i with
    | zero => simp at hx hy; subst hx; subst hy; exact hb
    | succ i => exact ih i x y (by simpa using hx) (by simpa using hy)
theorem NV.aggs {cs ds : List AV} (b : NVs cs ds) : NV (.agg cs) (.agg ds) := .agg _ _ b.len b.get
theorem NV.tups {cs ds : List AV} (b : NVs cs ds) : NV (.tup cs) (.tup ds) := .tup _ _ b.len b.get
theorem PC.nv {P f args r r'} (hc : PC P f args r) (hn : NV r r') : PC P f args r' := by
  intro h nx Q hQ
  have := hc h nx (fun r0 h0 n0 => r0 = r ∧ h0 = h ∧ n0 = nx) ⟨rfl, rfl, rfl⟩
  exact ⟨this.1, fun ρ I w vs h1 h2 h3 => (this.2 ρ I w vs h1 h2 h3).mono fun e w' ⟨v, r0, h', nx', ρ', I', g1, ⟨e1, e2, e3⟩, g3, g4, g5, g6, g7, g8⟩ => by
    subst e1 e2 e3
    exact ⟨v, r', _, _, ρ', I', g1, hQ, hn.vr g3, g4, g5, g6, g7, g8⟩⟩
theorem nvs_world : NVs [.int .i64 0, .nil, .nil, .nil, .nil, .nil, .nil, .nil, .int .i64 0, .nil, .nil, .nil, .nil, .nil, .nil, .nil, .nil] (wldV (fun _ => true) default) := by
  unfold wldV
  repeat' first | exact .nil | refine .cons ?_ ?_ | exact .same _ | exact .nil _ _

@[simp] theorem take_len_map {α β : Type} {f : α → β} {xs : List α} : (xs.map f).take xs.length = xs.map f := List.take_of_length_le (by simp)
theorem yB {h : zX} {nx : Nat} (hnx : ∀ j, h j ≠ none → j < nx) (k : Nat) : h (nx + k) = none := by
  cases he : h (nx + k) with
  | none => rfl
  | some e => have := hnx (nx + k) (by rw [he]; simp); omega

theorem WV.cl {h : zX} {X : WI} {w : Wld} (v : WV h X w) : ∀ id ∈ X.ids, ∀ e, h id = some e → ClE e := by
  have mp : ∀ {α : Type} {f : α → List AV} (hf : ∀ x, ∀ c ∈ f x, Cl c) (xs : List α), ∀ i j x, zC0 (xs.map f) i j = some x → Cl x := fun hf xs i j x hx => by
    obtain ⟨cs, h1, h2⟩ := yM hx
    obtain ⟨y, _, rfl⟩ := List.mem_map.1 (List.mem_of_getElem? h1)
    exact hf y x (List.mem_of_getElem? h2)
  have zp : ∀ {α : Type} {f : α → Nat → List AV} (hf : ∀ x k, ∀ c ∈ f x k, Cl c) (xs : List α) (is : List Nat), ∀ i j x, zC0 (List.zipWith f xs is) i j = some x → Cl x := fun hf xs is i j x hx => by
    obtain ⟨cs, h1, h2⟩ := yM hx
    rw [List.getElem?_zipWith] at h1
    cases hx : xs[i]? with
    | none => rw [hx] at h1; cases h1
    | some a =>
      cases hk : is[i]? with
      | none => rw [hx, hk] at h1; cases h1
      | some k => rw [hx, hk] at h1; cases h1; exact hf a k x (List.mem_of_getElem? h2)
  intro id hid e he
  simp only [WI.ids, List.mem_append, List.mem_map, List.mem_range] at hid
  rcases hid with ⟨k, hk, rfl⟩ | hj | hj
  · rw [v.top k hk] at he
    cases he
    rcases lt15 hk with rfl | rfl | rfl | rfl | rfl | rfl | rfl | rfl | rfl | rfl | rfl | rfl | rfl | rfl | rfl
    · exact zp (fun x k c hc => by simp [prgR] at hc; subst hc; exact .ref _ _ _ _) _ _
    · exact mp (fun x c hc => by simp [vE] at hc; rcases hc with rfl | rfl | rfl | rfl | rfl <;> exact .int _ _) _
    · exact mp (fun x c hc => by simp [vK] at hc; rcases hc with rfl | rfl | rfl | rfl <;> exact .int _ _) _
    · exact mp (fun x c hc => by simp [bv] at hc; subst hc; exact .bool _) _
    · exact mp (fun x c hc => by simp [iv] at hc; subst hc; exact .int _ _) _
    · exact mp (fun x c hc => by simp [yX] at hc; rcases hc with rfl | rfl | rfl <;> exact .int _ _) _
    · exact mp (fun x c hc => by simp [vN] at hc; rcases hc with rfl | rfl | rfl | rfl | rfl <;> first | exact .int _ _ | exact .bool _) _
    · exact mp (fun x c hc => by simp [iv] at hc; subst hc; exact .int _ _) _
    · exact mp (fun x c hc => by simp [bv] at hc; subst hc; exact .bool _) _
    · exact mp (fun x c hc => by simp [yI, uW] at hc; rcases hc with rfl | rfl | rfl | rfl | rfl <;> first | exact .int _ _ | exact .bool _) _
    · exact mp (fun x c hc => by simp [vQ] at hc; rcases hc with rfl | rfl | rfl | rfl | rfl | rfl | rfl | rfl | rfl <;> exact .int _ _) _
    · exact zp (fun x k c hc => by simp [uL] at hc; rcases hc with rfl | rfl | rfl | rfl | rfl <;> first | exact .int _ _ | exact .ref _ _ _ _) _ _
    · exact mp (fun x c hc => by simp [uP] at hc; rcases hc with rfl | rfl | rfl | rfl <;> exact .int _ _) _
    · exact mp (fun x c hc => by simp [iv] at hc; subst hc; exact .int _ _) _
    · exact mp (fun x c hc => by simp [iv] at hc; subst hc; exact .int _ _) _
  · obtain ⟨m, hm, rfl⟩ := List.getElem_of_mem hj
    rw [v.prog m (w.progs[m]'(by have := v.pl; omega)) X.pg[m] (List.getElem?_eq_getElem (by have := v.pl; omega)) (List.getElem?_eq_getElem hm)] at he
    cases he
    exact mp (fun x c hc => by simp [vU] at hc; rcases hc with rfl | rfl | rfl <;> exact .int _ _) _
  · obtain ⟨m, hm, rfl⟩ := List.getElem_of_mem hj
    rw [v.wait m (w.groups[m]'(by have := v.gl; omega)) X.gr[m] (List.getElem?_eq_getElem (by have := v.gl; omega)) (List.getElem?_eq_getElem hm)] at he
    cases he
    exact mp (fun x c hc => by simp [iv] at hc; subst hc; exact .int _ _) _
theorem WV.ex {h : zX} {X : WI} {w : Wld} (v : WV h X w) : ∀ id ∈ X.ids, h id ≠ none := by
  intro id hid
  simp only [WI.ids, List.mem_append, List.mem_map, List.mem_range] at hid
  rcases hid with ⟨k, hk, rfl⟩ | hj | hj
  · rw [v.top k hk]; simp
  · obtain ⟨m, hm, rfl⟩ := List.getElem_of_mem hj
    rw [v.prog m (w.progs[m]'(by have := v.pl; omega)) X.pg[m] (List.getElem?_eq_getElem (by have := v.pl; omega)) (List.getElem?_eq_getElem hm)]; simp
  · obtain ⟨m, hm, rfl⟩ := List.getElem_of_mem hj
    rw [v.wait m (w.groups[m]'(by have := v.gl; omega)) X.gr[m] (List.getElem?_eq_getElem (by have := v.gl; omega)) (List.getElem?_eq_getElem hm)]; simp

def WC (P : Program) (f : FuncId) (args : List AV) (rr : WI → AV) (w : Wld) : Prop :=
  ∀ (h : zX) (nx : Nat), ACall P f args h nx fun r h' nx' => ∃ X : WI, r = rr X ∧ WV h' X w ∧ (∀ id ∈ X.ids, nx ≤ id ∧ id < nx') ∧ nx ≤ nx' ∧ ∀ j, j ∉ X.ids → h' j = h j
def MkQ (rr : WI → AV) (w : Wld) (h : zX) (nx : Nat) (r : AV) (h' : zX) (nx' : Nat) : Prop := KeepB nx h' h ∧ ∃ X : WI, r = rr X ∧ WV h' X w ∧ ∀ id ∈ X.ids, nx ≤ id ∧ id < nx'
theorem WC.of {P f args} {rr : WI → AV} {w : Wld} (hc : AC P f args (fun _ _ => True) (MkQ rr w)) : WC P f args rr w := by
  intro h nx
  refine ⟨(hc h nx trivial).1, fun ρ I w0 vs hnm H hv => ?_⟩
  have hlt : ∀ j, h j ≠ none → j < nx := by
    intro j hj
    cases he : h j with
    | none => exact absurd he hj
    | some e => obtain ⟨B, hB⟩ := (H.ent he).base; exact hnm j B hB
  refine (ACall.sub ((hc h nx trivial).mono ?_)).2 ρ I w0 vs hnm H hv
  rintro r h' nx' ⟨⟨hk, X, rfl, hX, hids⟩, hle, _⟩
  have hin : ∀ j ∈ X.ids, (if j < nx ∨ j ∈ X.ids then h' j else none) = h' j := fun j hj => if_pos (.inr hj)
  refine ⟨fun j => if j < nx ∨ j ∈ X.ids then h' j else none, fun id e he => ?_, X, rfl, hX.keep hin, hids, hle, fun j hj => ?_⟩
  · dsimp only at he
    split at he
    · exact he
    · cases he
  · dsimp only
    by_cases hj2 : j < nx
    · rw [if_pos (.inl hj2)]; exact hk j hj2
    · rw [if_neg (by simp [hj2, hj])]
      cases he : h j with
      | none => rfl
      | some e => exact absurd (hlt j (by rw [he]; simp)) hj2
section
variable {C : Ctx}
theorem call_wc {n d g args} {rr : WI → AV} {w : Wld} {st : St} (hc : WC C.P g args rr w)
    (hr : ∀ X h' n', WV h' X w → (∀ id ∈ X.ids, st.nx ≤ id ∧ id < n') → st.nx ≤ n' → (∀ j, j ∉ X.ids → h' j = st.h j) → uY C n (({ st with h := h', nx := n' } : St).put d (rr X))) : zG C n d g args st :=
  (hc st.h st.nx).mono fun r h' n' ⟨X, e, h1, h2, h3, h4⟩ => by subst e; exact hr X h' n' h1 h2 h3 h4
theorem call_wcB {n d g args args'} {rr : WI → AV} {w : Wld} {st : St} (hc : WC C.P g args' rr w) (hcl : ∀ X, Cl (rr X)) (hb : Bors st.h args args')
    (hr : ∀ X h' n', WV h' X w → (∀ id ∈ X.ids, st.nx ≤ id ∧ id < n') → st.nx ≤ n' → (∀ j, j ∉ X.ids → h' j = st.h j) → uY C n (({ st with h := h', nx := n' } : St).put d (rr X))) : zG C n d g args st := by
  refine ACall.borrow hb.len hb.get ((hc _ _).mono fun r h' n' ⟨X, e, h1, h2, h3, h4⟩ => ?_)
  subst e
  have hs : ∀ id ∈ X.ids, over h' st.h id = h' id := fun id hid => by
    unfold over
    cases he : h' id with
    | none => exact absurd he (h1.ex id hid)
    | some e => rfl
  refine ⟨hcl X, fun id e he => ?_, hr X _ n' (h1.keep hs) h2 h3 fun j hj => ?_⟩
  · by_cases hid : id ∈ X.ids
    · exact ⟨(h2 id hid).1, h1.cl id hid e he⟩
    · rw [h4 id hid] at he; cases he
  · unfold over
    rw [h4 j hj]
end
end Go.AE
end

section
/- Abstract machine: a world that is nothing, in a result of several values, seen as a world in empty rows. -/
namespace Go.AE
set_option linter.unusedVariables false
inductive Gt (Q : AV → zX → Nat → Prop) : AV → zX → Nat → Prop
  | done {r h nx} : Q r h nx → Gt Q r h nx
  | nil {cells rest h nx i sz} : cells[i]? = some .nil → 0 < sz → Gt Q (.tup (.agg (cells.set i (.ref nx sz 0 0)) :: rest)) (upd h nx (some (.row sz []))) (nx + 1) → Gt Q (.tup (.agg cells :: rest)) h nx
theorem Gt.sound {Q : AV → zX → Nat → Prop} {h0 : zX} {ρ0 : yP} {I0 : Imm} {w0 : World} {n0 : Nat} {v : Value} {r : AV} {h : zX} {nx : Nat} (g : Gt Q r h nx) : ∀ {ρ : yP} {I : Imm} {w : World}, VR ρ I w r v → HRel ρ I w h → Ext h0 ρ0 I0 w0 h ρ I w → Fresh n0 ρ0 ρ → n0 ≤ nx → (∀ id B, ρ id = some B → id < nx) →
    ∃ r' h' nx' ρ', Q r' h' nx' ∧ VR ρ' I w r' v ∧ HRel ρ' I w h' ∧ Ext h0 ρ0 I0 w0 h' ρ' I w ∧ Fresh n0 ρ0 ρ' ∧ n0 ≤ nx' ∧ ∀ id B, ρ' id = some B → id < nx' := by
  induction g with
  | done hq => intro ρ I w h1 h2 h3 h4 h5 h6; exact ⟨_, _, _, ρ, hq, h1, h2, h3, h4, h5, h6⟩
  | @nil cells rest h nx i sz hi hsz _ ih =>
    intro ρ I w h1 h2 h3 h4 h5 h6
    have nofree : ρ nx = none := by
      cases hh : ρ nx with
      | none => rfl
      | some B => have := h6 nx B hh; omega
    obtain ⟨H', E'⟩ := nil_ext h2 hsz nofree
    have hic : i < cells.length := (List.getElem?_eq_some_iff.1 hi).1
    have gr : ∀ i B, ρ i = some B → upd ρ nx (some ⟨none, 0, 0, sz⟩) i = some B := fun i B hB => by
      rw [zJ _ _ _ _ (by have := h6 i B hB; omega)]; exact hB
    have hv : VR (upd ρ nx (some ⟨none, 0, 0, sz⟩)) I w (.tup (.agg (cells.set i (.ref nx sz 0 0)) :: rest)) v := by
      cases h1 with
      | tup _ vs q1 q2 =>
        refine .tup _ vs (by simpa using q1) fun j y u hy hu => ?_
        cases j with
        | zero =>
          simp only [List.getElem?_cons_zero, Option.some.injEq] at hy
          subst hy
          have h0 := q2 0 (.agg cells) u rfl hu
          cases h0 with
          | agg _ ws p1 p2 =>
            refine .agg _ ws (by simpa using p1) fun j y u hy hu => ?_
            by_cases hj : j = i
            · subst hj
              rw [List.getElem?_set_self hic] at hy; cases hy
              rw [(p2 j _ u hi hu).nil_inv]
              exact .ref0 nx sz 0 none _ (zL ..) rfl
            · rw [List.getElem?_set_ne (by omega)] at hy
              exact (p2 j y u hy hu).mono gr (fun _ _ h => h) fun _ _ _ => rfl
        | succ j =>
          exact (q2 (j + 1) y u (by simpa using hy) hu).mono gr (fun _ _ h => h) fun _ _ _ => rfl
    refine ih hv H' (h3.trans E') (fun i B hB => ?_) (by omega) fun i B hB => ?_
    · by_cases hi : i = nx
      · exact .inr (by omega)
      · rw [zJ _ _ _ _ hi] at hB; exact h4 i B hB
    · by_cases hi : i = nx
      · omega
      · rw [zJ _ _ _ _ hi] at hB; have := h6 i B hB; omega
theorem ACall.ghostT {P f args h nx} {Q : AV → zX → Nat → Prop} (hc : ACall P f args h nx (Gt Q)) : ACall P f args h nx Q :=
  ⟨hc.1, fun ρ I w vs h1 h2 h3 => (hc.2 ρ I w vs h1 h2 h3).mono fun e w' ⟨v, r, h', nx', ρ', I', g1, hq, g3, g4, g5, g6, g7, g8⟩ => by
    obtain ⟨r2, h2', nx2, ρ2, q1, q2, q3, q4, q5, q6, q7⟩ := Gt.sound hq g3 g4 g5 g6 g7 g8
    exact ⟨v, r2, h2', nx2, ρ2, I', g1, q1, q2, q3, q4, q5, q6, q7⟩⟩
def zeroC : List AV := [.int .i64 0, .nil, .nil, .nil, .nil, .nil, .nil, .nil, .int .i64 0, .nil, .nil, .nil, .nil, .nil, .nil, .nil, .nil]
theorem Gt.zero {Q : AV → zX → Nat → Prop} {rest : List AV} {h : zX} {nx : Nat} (hq : ∀ (X : WI) (h' : zX), WV h' X default → (∀ id ∈ X.ids, nx ≤ id ∧ id < nx + 15) → (∀ j, j < nx → h' j = h j) → Q (.tup (.agg (zD6 X default) :: rest)) h' (nx + 15)) :
    Gt Q (.tup (.agg zeroC :: rest)) h nx := by
  unfold zeroC
  refine .nil (i := 1) (sz := 1) rfl (by decide) ?_
  simp only [List.set_cons_succ, List.set_cons_zero, Nat.add_assoc, Nat.reduceAdd]
  refine .nil (i := 2) (sz := 5) rfl (by decide) ?_
  simp only [List.set_cons_succ, List.set_cons_zero, Nat.add_assoc, Nat.reduceAdd]
  refine .nil (i := 3) (sz := 4) rfl (by decide) ?_
  simp only [List.set_cons_succ, List.set_cons_zero, Nat.add_assoc, Nat.reduceAdd]
  refine .nil (i := 4) (sz := 1) rfl (by decide) ?_
  simp only [List.set_cons_succ, List.set_cons_zero, Nat.add_assoc, Nat.reduceAdd]
  refine .nil (i := 5) (sz := 1) rfl (by decide) ?_
  simp only [List.set_cons_succ, List.set_cons_zero, Nat.add_assoc, Nat.reduceAdd]
  refine .nil (i := 6) (sz := 3) rfl (by decide) ?_
  simp only [List.set_cons_succ, List.set_cons_zero, Nat.add_assoc, Nat.reduceAdd]
  refine .nil (i := 7) (sz := 5) rfl (by decide) ?_
  simp only [List.set_cons_succ, List.set_cons_zero, Nat.add_assoc, Nat.reduceAdd]
  refine .nil (i := 9) (sz := 1) rfl (by decide) ?_
  simp only [List.set_cons_succ, List.set_cons_zero, Nat.add_assoc, Nat.reduceAdd]
  refine .nil (i := 10) (sz := 1) rfl (by decide) ?_
  simp only [List.set_cons_succ, List.set_cons_zero, Nat.add_assoc, Nat.reduceAdd]
  refine .nil (i := 11) (sz := 5) rfl (by decide) ?_
  simp only [List.set_cons_succ, List.set_cons_zero, Nat.add_assoc, Nat.reduceAdd]
  refine .nil (i := 12) (sz := 9) rfl (by decide) ?_
  simp only [List.set_cons_succ, List.set_cons_zero, Nat.add_assoc, Nat.reduceAdd]
  refine .nil (i := 13) (sz := 5) rfl (by decide) ?_
  simp only [List.set_cons_succ, List.set_cons_zero, Nat.add_assoc, Nat.reduceAdd]
  refine .nil (i := 14) (sz := 4) rfl (by decide) ?_
  simp only [List.set_cons_succ, List.set_cons_zero, Nat.add_assoc, Nat.reduceAdd]
  refine .nil (i := 15) (sz := 1) rfl (by decide) ?_
  simp only [List.set_cons_succ, List.set_cons_zero, Nat.add_assoc, Nat.reduceAdd]
  refine .nil (i := 16) (sz := 1) rfl (by decide) ?_
  simp only [List.set_cons_succ, List.set_cons_zero, Nat.add_assoc, Nat.reduceAdd]
  refine .done (hq (WI.ofL [nx, nx + 1, nx + 2, nx + 3, nx + 4, nx + 5, nx + 6, nx + 7, nx + 8, nx + 9, nx + 10, nx + 11, nx + 12, nx + 13, nx + 14] [] []) _
    (WV.ofL (a := 0) (b := 0) (c := 0) (d := 0) ?_ ?_ ?_ ?_ ?_ ?_ ?_ ?_ ?_ ?_ ?_ ?_ ?_ ?_ ?_ rfl rfl .nil .nil (Nat.le_refl _) ?_ (fun t ht => by omega)) (fun id hid => ?_) (fun j hj => ?_))
  case refine_16 =>
    simp only [List.nodup_cons, List.mem_cons, List.not_mem_nil, or_false, not_or, List.nodup_nil, and_true, not_false_eq_true]
    omega
  case refine_17 =>
    rw [WI.ofL_ids] at hid
    simp only [List.append_nil, List.mem_cons, List.not_mem_nil, or_false] at hid
    omega
  case refine_18 =>
    repeat rw [zJ _ _ _ _ (by omega)]
  all_goals
    first
    | exact zL ..
    | (repeat (first | exact zL .. | rw [zJ _ _ _ _ (by omega)]))
end Go.AE
end

section
/- Abstract machine: a request's own part, which changes a world that lies in an object of its caller. -/
namespace Go.AE
set_option linter.unusedVariables false
def DoQ (p : Nat) (X : WI) (qs : List (Nat × List AV × List AV)) (w' : Wld) (b : Bool) (h : zX) (nx : Nat) (r : AV) (h' : zX) (nx' : Nat) : Prop :=
  r = .bool b ∧ (b = true → ∃ X' : WI, h' p = some (.obj (zD6 X' w')) ∧ WV h' X' w' ∧ ∀ id ∈ X'.ids, id ∈ X.ids ∨ nx ≤ id ∧ id < nx') ∧ (∀ q ∈ qs, h' q.1 = some (.obj q.2.2)) ∧
      ∀ j, j < nx → j ≠ p → j ∉ X.ids → (∀ q ∈ qs, j ≠ q.1) → h' j = h j
def DoOk (P : Program) (g : FuncId) (qs : List (Nat × List AV × List AV)) (w w' : Wld) (b : Bool) : Prop :=
  ∀ (p : Nat) (X : WI), AC P g (.ptr p 0 :: qs.map fun q => .ptr q.1 0)
    (fun h nx => h p = some (.obj (zD6 X w)) ∧ WV h X w ∧ ∀ q ∈ qs, h q.1 = some (.obj q.2.1) ∧ q.1 ≠ p) (DoQ p X qs w' b)
def askW (w w' : Wld) (b : Bool) : Wld := if zE1 w = true then (if b = true ∧ zE1 w' = true then w' else w) else default
def askB (w w' : Wld) (b : Bool) : Bool := zE1 w && (b && zE1 w')
def AskQ (qs : List (Nat × List AV × List AV)) (w w' : Wld) (b : Bool) (h : zX) (nx : Nat) (r : AV) (h' : zX) (nx' : Nat) : Prop :=
  (∃ X : WI, r = .tup [.agg (zD6 X (askW w w' b)), .bool (askB w w' b)] ∧ WV h' X (askW w w' b) ∧ ∀ id ∈ X.ids, nx ≤ id ∧ id < nx') ∧ (∀ q ∈ qs, h' q.1 = some (.obj (if zE1 w = true then q.2.2 else q.2.1))) ∧ ∀ j, j < nx → (∀ q ∈ qs, j ≠ q.1) → h' j = h j
theorem AskQ.bad {qs : List (Nat × List AV × List AV)} {w w' : Wld} {b : Bool} {h h2 : zX} {nx n2 : Nat} (hw : ¬ zE1 w = true) (hq : ∀ q ∈ qs, h q.1 = some (.obj q.2.1)) (hqn : ∀ q ∈ qs, q.1 < nx) (hk : ∀ j, j < nx → h2 j = h j) (hn : nx ≤ n2) :
    Gt (AskQ qs w w' b h nx) (.tup (.agg zeroC :: [.bool false])) h2 n2 := by
  refine Gt.zero fun X h' hX hid hf => ⟨⟨X, ?_, ?_, fun id hi => ?_⟩, fun q hm => ?_, fun j hj _ => ?_⟩
  · have e1 : askW w w' b = default := if_neg hw
    have e2 : askB w w' b = false := by simp [askB, hw]
    rw [e1, e2]
  · have e1 : askW w w' b = default := if_neg hw
    rw [e1]; exact hX
  · have := hid id hi; omega
  · rw [if_neg hw, hf q.1 (by have := hqn q hm; omega), hk q.1 (hqn q hm)]; exact hq q hm
  · rw [hf j (by omega), hk j hj]
theorem AC.ghostT {P : Program} {f : FuncId} {args : List AV} {Pre : zX → Nat → Prop} {Q : zX → Nat → AV → zX → Nat → Prop} (hc : AC P f args Pre (fun h nx r h' nx' => Gt (Q h nx) r h' nx')) : AC P f args Pre Q := fun h nx hp =>
  (((hc h nx hp).mono fun _ _ _ hq => hq.1).ghostT).ends
theorem AC.ghost {P : Program} {f : FuncId} {args : List AV} {Pre : zX → Nat → Prop} {Q : zX → Nat → AV → zX → Nat → Prop} (hc : AC P f args Pre (fun h nx r h' nx' => Gh (Q h nx) r h' nx')) : AC P f args Pre Q := fun h nx hp =>
  (((hc h nx hp).mono fun _ _ _ hq => hq.1).ghost).ends
theorem WV.obj {h : zX} {X : WI} {w : Wld} (v : WV h X w) {p : Nat} {cs : List AV} (hp : h p = some (Ent.obj cs)) : p ∉ X.ids := fun hm => by
  simp only [WI.ids, List.mem_append, List.mem_map, List.mem_range] at hm
  rcases hm with ⟨k, hk, rfl⟩ | hj | hj
  · rw [v.top k hk] at hp
    rcases lt15 hk with rfl | rfl | rfl | rfl | rfl | rfl | rfl | rfl | rfl | rfl | rfl | rfl | rfl | rfl | rfl <;> cases hp
  · obtain ⟨m, hm, rfl⟩ := List.getElem_of_mem hj
    rw [v.prog m (w.progs[m]'(by have := v.pl; omega)) X.pg[m] (List.getElem?_eq_getElem (by have := v.pl; omega)) (List.getElem?_eq_getElem hm)] at hp; cases hp
  · obtain ⟨m, hm, rfl⟩ := List.getElem_of_mem hj
    rw [v.wait m (w.groups[m]'(by have := v.gl; omega)) X.gr[m] (List.getElem?_eq_getElem (by have := v.gl; omega)) (List.getElem?_eq_getElem hm)] at hp; cases hp
theorem WV.ofM {H : zX} {w : Wld} {t0 t1 t2 t3 t4 t5 t6 t7 t8 t9 t10 t11 t12 t13 t14 : Nat} {pg gr : List Nat} {a b c d : Nat}
    (r0 : H t0 = some (.row 1 (List.zipWith prgR w.progs pg))) (r1 : H t1 = some (.row 5 (w.tree.map vE))) (r2 : H t2 = some (.row 4 (w.events.map vK))) (r3 : H t3 = some (.row 1 (w.spread.told.map bv))) (r4 : H t4 = some (.row 1 (w.spread.work.map iv)))
    (r5 : H t5 = some (.row 3 (w.timers.heap.map yX))) (r6 : H t6 = some (.row 5 (w.timers.list.map vN))) (r7 : H t7 = some (.row 1 (w.afters.slots.ages.map iv))) (r8 : H t8 = some (.row 1 (w.afters.slots.used.map bv))) (r9 : H t9 = some (.row 5 (w.afters.list.map yI)))
    (r10 : H t10 = some (.row 9 (w.tasks.map vQ))) (r11 : H t11 = some (.row 5 (List.zipWith uL w.groups gr))) (r12 : H t12 = some (.row 4 (w.sights.map uP))) (r13 : H t13 = some (.row 1 (w.began.map iv))) (r14 : H t14 = some (.row 1 (w.rang.map iv)))
    (pl : pg.length = w.progs.length) (gl : gr.length = w.groups.length) (sp : Subs H 3 (fun x : List Inn => x.map vU) w.progs pg a b) (sg : Subs H 1 (fun x : Grp => x.waits.map iv) w.groups gr c d) (hd : ∀ x ∈ pg, ∀ y ∈ gr, x ≠ y)
    (nt : [t0, t1, t2, t3, t4, t5, t6, t7, t8, t9, t10, t11, t12, t13, t14].Nodup) (np : ∀ t ∈ [t0, t1, t2, t3, t4, t5, t6, t7, t8, t9, t10, t11, t12, t13, t14], t ∉ pg ∧ t ∉ gr) :
    WV H (WI.ofL [t0, t1, t2, t3, t4, t5, t6, t7, t8, t9, t10, t11, t12, t13, t14] pg gr) w where
  top k hk := by
    match k, hk with
    | 0, _ => exact r0
    | 1, _ => exact r1
    | 2, _ => exact r2
    | 3, _ => exact r3
    | 4, _ => exact r4
    | 5, _ => exact r5
    | 6, _ => exact r6
    | 7, _ => exact r7
    | 8, _ => exact r8
    | 9, _ => exact r9
    | 10, _ => exact r10
    | 11, _ => exact r11
    | 12, _ => exact r12
    | 13, _ => exact r13
    | 14, _ => exact r14
    | _ + 15, hk => omega
  pl := pl
  gl := gl
  prog j p id hp hi := sp.row j p id hp hi
  wait j g id hg hi := sg.row j g id hg hi
  nd := by
    rw [WI.ofL_ids, List.nodup_append]
    refine ⟨nt, ?_, fun x hx y hy e => ?_⟩
    · rw [List.nodup_append]
      exact ⟨sp.nd, sg.nd, hd⟩
    · subst e
      rcases List.mem_append.1 hy with hy | hy
      · exact (np x hx).1 hy
      · exact (np x hx).2 hy
theorem zI9 {α : Type} [Inhabited α] {f : α → Nat → List AV} {xs : List α} {is : List Nat} (h : is.length < xs.length) (id : Nat) : List.zipWith f xs (is ++ [id]) = List.zipWith f xs is ++ [f (gt xs (is.length : Int)) id] := by
  apply List.ext_getElem?
  intro j
  have e : (List.zipWith f xs is).length = is.length := by simp; omega
  rw [List.getElem?_zipWith]
  by_cases hj : j < is.length
  · rw [List.getElem?_append_left hj, List.getElem?_append_left (by rw [e]; exact hj), List.getElem?_zipWith]
  · rw [List.getElem?_append_right (by omega), List.getElem?_append_right (by rw [e]; omega), e]
    by_cases hj2 : j = is.length
    · subst hj2
      rw [List.getElem?_eq_getElem h, vW h]; simp
    · have : j - is.length ≠ 0 := by omega
      obtain ⟨k, hk⟩ := Nat.exists_eq_succ_of_ne_zero this
      rw [hk]; simp
end Go.AE
end

section
/- Abstract machine: rows of rows are made immutable. -/
namespace Go.AE
set_option linter.unusedVariables false
inductive Fro (h : zX) : AV → AV → Prop
  | same (x) : Fro h x x
  | ref (id sz off len xs ys) : h id = some (.row sz xs) → off + len ≤ xs.length → ys.length = len → (∀ (i : Nat) c d, ((xs.drop off).take len)[i]? = some c → ys[i]? = some d → d.length = c.length) →
      (∀ (i j : Nat) x y, zC0 ((xs.drop off).take len) i j = some x → zC0 ys i j = some y → Fro h x y) → Fro h (.ref id sz off len) (.view true sz ys)
  | agg (cells cells') : cells'.length = cells.length → (∀ (i : Nat) x y, cells[i]? = some x → cells'[i]? = some y → Fro h x y) → Fro h (.agg cells) (.agg cells')
  | tup (cells cells') : cells'.length = cells.length → (∀ (i : Nat) x y, cells[i]? = some x → cells'[i]? = some y → Fro h x y) → Fro h (.tup cells) (.tup cells')
def ImmT (h : zX) (ρ : yP) (I : Imm) : Imm := fun p b => I p b ∨ (p = true ∧ Owns h ρ b)
section
variable {ρ : yP} {I : Imm} {w : World}
theorem Fro.vr {h : zX} {x y : AV} {u : Value} (H : HRel ρ I w h) (hb : Fro h x y) : VR ρ I w x u → VR ρ (ImmT h ρ I) w y u := by
  have up : ∀ {x u}, VR ρ I w x u → VR ρ (ImmT h ρ I) w x u := fun hv => hv.mono (fun _ _ h => h) (fun _ _ h => .inl h) fun _ _ _ => rfl
  induction hb generalizing u with
  | same x => exact up
  | ref id sz off len xs ys hid hle hlen hw hc ih =>
    intro hv
    obtain ⟨B, h1, h2, h3, h4, h5, h6⟩ := H.row id sz xs hid
    have hlen0 : ((xs.drop off).take len).length = len := by simp; omega
    have back : ∀ {i j : Nat} {y}, zC0 ys i j = some y → ∃ x, zC0 ((xs.drop off).take len) i j = some x := by
      intro i j y hy
      obtain ⟨d, q1, q2⟩ := yM hy
      have hi : i < ((xs.drop off).take len).length := by rw [hlen0, ← hlen]; exact (List.getElem?_eq_some_iff.1 q1).1
      have hc0 := List.getElem?_eq_getElem hi
      have hj : j < (((xs.drop off).take len)[i]).length := by rw [← hw i _ d hc0 q1]; exact (List.getElem?_eq_some_iff.1 q2).1
      exact ⟨_, by simp only [zC0, hc0, Option.bind_some]; exact List.getElem?_eq_getElem hj⟩
    generalize hz : AV.ref id sz off len = z at hv
    cases hv <;> simp at hz
    · obtain ⟨rfl, rfl, rfl, rfl⟩ := hz
      obtain rfl : ys = [] := List.eq_nil_of_length_eq_zero hlen
      exact .viewNil ..
    · rename_i b c B' q2 q1 q3 q4 q5 q6
      obtain ⟨rfl, rfl, rfl, rfl⟩ := hz
      have q7 : ρ id = some B' := by assumption
      have q8 : B'.blk = some b := by assumption
      rw [h1] at q7; cases q7
      clear q1 q2
      have q2 := q8
      rcases h6 with ⟨g1, g2, g3⟩ | ⟨b', cur, ty, g1, g2, g3, g4, g5, g6⟩
      · rw [g1] at q2; cases q2
      · rw [g1] at q2; cases q2
        have hown : Owns h ρ b := ⟨id, _, B, hid, h1, g1⟩
        have hv := VR.view (ρ := ρ) (I := ImmT h ρ I) (w := w) true sz ys b (B.off + off * sz) c (.inr ⟨rfl, hown⟩) (by omega) (by omega) (fun i d hd => ?_) (fun i j y hy => ?_) (fun i j y u hy hu => ?_)
        · rw [hlen] at hv
          exact h2 ▸ hv
        · have hi : i < ((xs.drop off).take len).length := by rw [hlen0, ← hlen]; exact (List.getElem?_eq_some_iff.1 hd).1
          have hc0 := List.getElem?_eq_getElem hi
          rw [hw i _ d hc0 hd]
          have hx := hc0
          rw [List.getElem?_take] at hx
          split at hx
          · rw [List.getElem?_drop] at hx; exact h5 _ _ hx
          · cases hx
        · obtain ⟨x, hx⟩ := back hy
          obtain ⟨hg, hi⟩ := vM hx
          obtain ⟨cells, q1, q2⟩ := yM hg
          have hj : j < sz := by rw [← h5 _ _ q1]; exact (List.getElem?_eq_some_iff.1 q2).1
          rw [cell_of_row w b _ cur ty _ g2]
          have e1 : off + i + 1 ≤ B.cap := by have := (List.getElem?_eq_some_iff.1 q1).1; omega
          have e2 := Nat.mul_le_mul_right sz e1
          rw [Nat.add_mul, Nat.add_mul, Nat.one_mul] at e2
          have : B.off + off * sz + i * sz + j < cur.size := by omega
          exact ⟨_, Array.getElem?_eq_getElem this⟩
        · obtain ⟨x, hx⟩ := back hy
          obtain ⟨hg, hi⟩ := vM hx
          rw [cell_of_row w b _ cur ty _ g2] at hu
          refine ih i j x y hx hy (g6 (off + i) j x u hg ?_)
          rw [← hu, Nat.add_mul, ← Nat.add_assoc]
  | agg cells cells' hl hc ih =>
    intro hv
    cases hv with
    | agg _ vs q1 q2 =>
      refine .agg cells' vs (by rw [q1, hl]) fun i y u hy hu => ?_
      have hi := (List.getElem?_eq_some_iff.1 hy).1
      rw [hl] at hi
      exact ih i _ y (List.getElem?_eq_getElem hi) hy (q2 i _ u (List.getElem?_eq_getElem hi) hu)
  | tup cells cells' hl hc ih =>
    intro hv
    cases hv with
    | tup _ vs q1 q2 =>
      refine .tup cells' vs (by rw [q1, hl]) fun i y u hy hu => ?_
      have hi := (List.getElem?_eq_some_iff.1 hy).1
      rw [hl] at hi
      exact ih i _ y (List.getElem?_eq_getElem hi) hy (q2 i _ u (List.getElem?_eq_getElem hi) hu)
end
theorem ACall.freezeD {P f args h nx} {Q : AV → zX → Nat → Prop} (hc : ACall P f args h nx fun r h' nx' => ∃ (g k : zX) (r' : AV), (∀ id e, g id = some e → h' id = some e) ∧ (∀ id e, k id = some e → h' id = some e) ∧ (∀ id, g id = none ∨ k id = none) ∧ Fro g r r' ∧ Q r' k nx') : ACall P f args h nx Q :=
  ⟨hc.1, fun ρ I w vs h1 h2 h3 => (hc.2 ρ I w vs h1 h2 h3).mono fun e w' ⟨v, r, h', nx', ρ', I', g1, ⟨g, k, r', hg, hk, hd, hfr, hq⟩, H, hv, E, g6, g7, g8⟩ => by
    have hgO : ∀ b, Owns g ρ' b → Owns h' ρ' b := fun b ⟨id, e, B, a1, a2, a3⟩ => ⟨id, e, B, hg _ _ a1, a2, a3⟩
    have Hk := HRel.sub hv hk
    have grow : ∀ {x u}, VR ρ' I' w' x u → VR ρ' (ImmT g ρ' I') w' x u := fun hv => hv.mono (fun _ _ h => h) (fun _ _ h => .inl h) fun _ _ _ => rfl
    refine ⟨v, r', k, nx', ρ', ImmT g ρ' I', g1, hq, hfr.vr (HRel.sub hv hg) H, ⟨fun id c he => ?_, fun id s x he => ?_, Hk.sep, fun i e B b p hi hB hb hI => ?_, fun p b hb => ?_⟩, ⟨E.rho, fun p b hb => .inl (E.imm p b hb), fun b hb => ?_, fun b hb => ?_, fun b ⟨id, e, B, a1, a2, a3⟩ => E.own b ⟨id, e, B, hk _ _ a1, a2, a3⟩, E.os, E.tape, E.output, E.size, E.frame⟩, g6, g7, g8⟩
    · obtain ⟨B, b, cur, ty, a1, a2, a3, a4, a5⟩ := Hk.obj id c he
      exact ⟨B, b, cur, ty, a1, a2, a3, a4, fun i x u hx hu => grow (a5 i x u hx hu)⟩
    · obtain ⟨B, a1, a2, a3, a4, a5, a6⟩ := Hk.row id s x he
      refine ⟨B, a1, a2, a3, a4, a5, ?_⟩
      rcases a6 with a6 | ⟨b, cur, ty, k1, k2, k3, k4, k5, k6⟩
      · exact .inl a6
      · exact .inr ⟨b, cur, ty, k1, k2, k3, k4, k5, fun i j x u hx hu => grow (k6 i j x u hx hu)⟩
    · rcases hI with hI | ⟨_, id, e2, B2, a1, a2, a3⟩
      · exact Hk.imm i e B b p hi hB hb hI
      · have hne : i ≠ id := fun e3 => by
          subst e3
          rcases hd i with q | q
          · rw [q] at a1; cases a1
          · rw [q] at hi; cases hi
        exact hv.sep i id e e2 B B2 b (hk _ _ hi) (hg _ _ a1) hne hB a2 hb a3
    · rcases hb with hb | ⟨_, hb⟩
      · exact hv.immlt p b hb
      · exact Owns.lt hv (hgO b hb)
    · rcases hb with hb | ⟨hb, _⟩
      · exact E.bor b hb
      · cases hb
    · rcases hb with hb | ⟨_, hb⟩
      · exact E.immN b hb
      · exact .inr (E.own b (hgO b hb))⟩
theorem WC.pc {P : Program} {f : FuncId} {args : List AV} {rr : WI → AV} {w : Wld} {r' : AV} (hc : WC P f args rr w) (hz : Fz r') (hv : ∀ (g : zX) (X : WI), WV g X w → Fro g (rr X) r') : PC P f args r' := by
  intro h nx Q hQ
  refine ⟨(hc h nx).1, fun ρ I w0 vs hnm H hvs => ?_⟩
  have hlt : ∀ j, h j ≠ none → j < nx := by
    intro j hj
    cases he : h j with
    | none => exact absurd he hj
    | some e => obtain ⟨B, hB⟩ := (H.ent he).base; exact hnm j B hB
  have := ACall.pureF (R := fun r => r = r') (Q := Q) (ACall.freezeD ((hc h nx).mono (Q' := fun r h' nx' => ∃ (g k : zX) (r0 : AV), (∀ id e, g id = some e → h' id = some e) ∧ (∀ id e, k id = some e → h' id = some e) ∧ (∀ id, g id = none ∨ k id = none) ∧ Fro g r r0 ∧ ((∀ id e, h id = some e → k id = some e) ∧ Fz r0 ∧ r0 = r')) ?_)) (fun r' hr => hr ▸ hQ)
  · exact this.2 ρ I w0 vs hnm H hvs
  · rintro r h' nx' ⟨X, rfl, hX, hids, hle, hfr⟩
    refine ⟨fun j => if j ∈ X.ids then h' j else none, fun j => if j ∈ X.ids then none else h' j, r', fun id e he => ?_, fun id e he => ?_, fun id => ?_, hv _ X (hX.keep fun id hid => if_pos hid), fun id e he => ?_, hz, rfl⟩
    · dsimp only at he; split at he
      · exact he
      · cases he
    · dsimp only at he; split at he
      · cases he
      · exact he
    · by_cases hid : id ∈ X.ids
      · right; exact if_pos hid
      · left; exact if_neg hid
    · have hn : id ∉ X.ids := fun hm => by
        have := hids id hm
        have := hlt id (by rw [he]; simp)
        omega
      dsimp only
      rw [if_neg hn, hfr id hn]; exact he
inductive Fros (h : zX) : List AV → List AV → Prop
  | nil : Fros h [] []
  | cons {x y xs ys} : Fro h x y → Fros h xs ys → Fros h (x :: xs) (y :: ys)
theorem Fros.len {h : zX} {xs ys : List AV} (b : Fros h xs ys) : ys.length = xs.length := by
  induction b with
  | nil => rfl
  | cons _ _ ih => simp [ih]
theorem Fros.get {h : zX} {xs ys : List AV} (b : Fros h xs ys) : ∀ (i : Nat) x y, xs[i]? = some x → ys[i]? = some y → Fro h x y := by
  induction b with
  | nil => intro i x y h; simp at h
  | cons hb _ ih =>
    intro i x y hx hy
    cases i with
    | zero => simp at hx hy; subst hx; subst hy; exact hb
    | succ i => exact ih i x y (by simpa using hx) (by simpa using hy)
theorem Fro.aggs {h : zX} {cs cs' : List AV} (b : Fros h cs cs') : Fro h (.agg cs) (.agg cs') := .agg _ _ b.len b.get
theorem Fro.tups {h : zX} {cs cs' : List AV} (b : Fros h cs cs') : Fro h (.tup cs) (.tup cs') := .tup _ _ b.len b.get
theorem Fro.ref0 {h : zX} {id sz len : Nat} {xs : List (List AV)} (hid : h id = some (.row sz xs)) (hl : len = xs.length) : Fro h (.ref id sz 0 len) (.view true sz xs) := by
  subst hl
  refine .ref id sz 0 xs.length xs xs hid (by omega) rfl (fun i c d hc hd => ?_) (fun i j x y hx hy => ?_)
  · simp at hc
    rw [hc] at hd; cases hd; rfl
  · simp at hx
    rw [hx] at hy; cases hy; exact .same _
theorem Fro.zip {h : zX} {α : Type} {f : α → Nat → List AV} {g : α → List AV} {xs : List α} {is : List Nat} {id sz len : Nat} (hl : is.length = xs.length) (hid : h id = some (.row sz (List.zipWith f xs is))) (hlen : len = xs.length)
    (hb : ∀ (j : Nat) x k, xs[j]? = some x → is[j]? = some k → Fros h (f x k) (g x)) : Fro h (.ref id sz 0 len) (.view true sz (xs.map g)) := by
  subst hlen
  have key : ∀ (i : Nat) c d, (List.zipWith f xs is)[i]? = some c → (xs.map g)[i]? = some d → Fros h c d := by
    intro i c d hc hd
    rw [zip_get hl] at hc
    rw [List.getElem?_map] at hd
    cases hx : xs[i]? with
    | none => rw [hx] at hc; cases hc
    | some x =>
      rw [hx] at hc hd
      cases hk : is[i]? with
      | none => rw [hk] at hc; cases hc
      | some k =>
        rw [hk] at hc
        cases hc; cases hd
        exact hb i x k hx hk
  refine Fro.ref id sz 0 xs.length _ _ hid (by simp [hl]) (by simp) (fun i c d hc hd => ?_) (fun i j x y hx hy => ?_)
  · rw [List.drop_zero, List.take_of_length_le (by simp [hl])] at hc
    exact (key i c d hc hd).len
  · rw [List.drop_zero, List.take_of_length_le (by simp [hl])] at hx
    obtain ⟨c, hc, hx⟩ := yM hx
    obtain ⟨d, hd, hy⟩ := yM hy
    exact (key i c d hc hd).get j x y hx hy
theorem WV.fros {h : zX} {X : WI} {w : Wld} (v : WV h X w) : Fros h (zD6 X w) (wldV (fun _ => true) w) := by
  have t := v.top
  unfold zD6 wldV
  refine .cons (.same _) (.cons (Fro.zip v.pl (t 0 (by omega)) rfl fun j x k hx hk => .cons (.ref0 (v.prog j x k hx hk) (by simp)) .nil) (.cons (.ref0 (t 1 (by omega)) (by simp)) (.cons (.ref0 (t 2 (by omega)) (by simp)) (.cons (.ref0 (t 3 (by omega)) (by simp))
    (.cons (.ref0 (t 4 (by omega)) (by simp)) (.cons (.ref0 (t 5 (by omega)) (by simp)) (.cons (.ref0 (t 6 (by omega)) (by simp)) (.cons (.same _) (.cons (.ref0 (t 7 (by omega)) (by simp)) (.cons (.ref0 (t 8 (by omega)) (by simp)) (.cons (.ref0 (t 9 (by omega)) (by simp))
    (.cons (.ref0 (t 10 (by omega)) (by simp)) (.cons (Fro.zip v.gl (t 11 (by omega)) rfl fun j x k hx hk => .cons (.same _) (.cons (.same _) (.cons (.same _) (.cons (.ref0 (v.wait j x k hx hk) (by simp)) (.cons (.same _) .nil))))) (.cons (.ref0 (t 12 (by omega)) (by simp))
    (.cons (.ref0 (t 13 (by omega)) (by simp)) (.cons (.ref0 (t 14 (by omega)) (by simp)) .nil))))))))))))))))
end Go.AE
end

section
/- The clock of a world goes on: what a request for it makes of the world, in plain terms. -/
namespace Go.AE
set_option linter.unusedVariables false
theorem zeroC_fz : Fz (.agg zeroC) := by
  refine .agg _ fun c hc => ?_
  simp only [zeroC, List.mem_cons, List.not_mem_nil, or_false] at hc
  rcases hc with rfl | rfl | rfl | rfl | rfl | rfl | rfl | rfl | rfl | rfl | rfl | rfl | rfl | rfl | rfl | rfl | rfl <;> first | exact .int _ _ | exact .nil
end Go.AE
end

section
/- Functions that are started: what becomes of slots and lists, in plain terms. -/
namespace Go.AE
set_option linter.unusedVariables false
def vS (s : Slt) (x : Han) : Bool := yN s x && x.age != 1000000
def zL8 (s : Slt) (x : Han) : Slt := ⟨s.ages.set x.slot.toNat (x.age + 1), s.used.set x.slot.toNat false⟩
def zK2 (s : Slt) (x : Han) : Slt := if vS s x = true then zL8 s x else s
def goA (a : Afs) (i : Nat) : Afs := ⟨zL8 a.slots (gt a.list (i : Int)).han, a.list.eraseIdx i⟩
def isGo (a : Afs) (x : Afr) : Bool := x.queued && vS a.slots x.han
def goAt (a : Afs) : Option Nat := a.list.findIdx? (isGo a)
def uZ (w : Wld) : Wld := match goAt w.afters with
  | some i => { w with afters := goA w.afters i, began := if w.began.length < 2000 then w.began ++ [(gt w.afters.list (i : Int)).fn] else w.began }
  | none => w
def zD7 (w : Wld) : Bool := (goAt w.afters).isSome
inductive Gr (Q : AV → zX → Nat → Prop) : AV → zX → Nat → Prop
  | done {r h nx} : Q r h nx → Gr Q r h nx
  | trim {id sz off len xs h nx} : h id = some (.row sz xs) → off + len ≤ xs.length → Gr Q (.ref nx sz 0 len) (upd (upd h id none) nx (some (.row sz ((xs.drop off).take len)))) (nx + 1) → Gr Q (.ref id sz off len) h nx
theorem Gr.sound {Q : AV → zX → Nat → Prop} {h0 : zX} {ρ0 : yP} {I0 : Imm} {w0 : World} {n0 : Nat} {v : Value} {r : AV} {h : zX} {nx : Nat} (g : Gr Q r h nx) : ∀ {ρ : yP} {I : Imm} {w : World}, VR ρ I w r v → HRel ρ I w h → Ext h0 ρ0 I0 w0 h ρ I w → Fresh n0 ρ0 ρ → n0 ≤ nx → (∀ id B, ρ id = some B → id < nx) →
    ∃ r' h' nx' ρ', Q r' h' nx' ∧ VR ρ' I w r' v ∧ HRel ρ' I w h' ∧ Ext h0 ρ0 I0 w0 h' ρ' I w ∧ Fresh n0 ρ0 ρ' ∧ n0 ≤ nx' ∧ ∀ id B, ρ' id = some B → id < nx' := by
  induction g with
  | done hq => intro ρ I w h1 h2 h3 h4 h5 h6; exact ⟨_, _, _, ρ, hq, h1, h2, h3, h4, h5, h6⟩
  | @trim id sz off len xs h nx hid hle _ ih =>
    intro ρ I w h1 h2 h3 h4 h5 h6
    have nofree : ρ nx = none := by
      cases hh : ρ nx with
      | none => rfl
      | some B => have := h6 nx B hh; omega
    obtain ⟨B, hB⟩ := (h2.ent hid).base
    obtain ⟨H', E'⟩ := trim_ext h2 hid hB hle nofree
    refine ih (h1.trim hB (zL ..)) H' (h3.trans E') (fun i B hB => ?_) (by omega) fun i B hB => ?_
    · by_cases hi : i = nx
      · exact .inr (by omega)
      · rw [zJ _ _ _ _ hi] at hB; exact h4 i B hB
    · by_cases hi : i = nx
      · omega
      · rw [zJ _ _ _ _ hi] at hB; have := h6 i B hB; omega
theorem app_mid {C : Ctx} {id n d t e sz r off len x ws ys} {st : St} (he : yZ C t = some e) (hs : e.size = sz) (hp : 0 < sz) (hb : e.bytes ≤ 128) (hrow : st.h r = some (.row sz ws)) (hx : zG8 st.h sz x = some ys)
    (hle : off + len ≤ ws.length) (hl : len + ys.length ≤ yK) (ho : ys.all (fun cs => cs.all AV.one) = true)
    (hr : uY C n ((({ st with h := upd st.h r none } : St).new id (.row sz ((ws.drop off).take len ++ ys ++ ws.drop (off + len + ys.length)))).put d (.ref id sz 0 (len + ys.length)))) :
    zC9 C id n d t (.ref r sz off len) x st := by
  subst hs
  exact app_ref he hp hb hrow hx hle hl ho hr
def WI.setTop (X : WI) (i id : Nat) : WI := ⟨fun k => if k = i then id else X.top k, X.pg, X.gr⟩
theorem WI.setTop_ids {X : WI} {i id j : Nat} (h : j ∈ (X.setTop i id).ids) : j ∈ X.ids ∨ j = id := by
  simp only [WI.ids, WI.setTop, List.mem_append, List.mem_map, List.mem_range] at h ⊢
  rcases h with ⟨k, hk, rfl⟩ | h
  · by_cases e : k = i
    · right; rw [if_pos e]
    · left; left; exact ⟨k, hk, by rw [if_neg e]⟩
  · left; right; exact h
def RemQ (p : Nat) (X : WI) (b : Bool) (w' : Wld) (h : zX) (nx : Nat) (r : AV) (h' : zX) (nx' : Nat) : Prop :=
  r = .bool b ∧ (b = true → ∃ id, nx ≤ id ∧ id < nx' ∧ h' p = some (.obj (zD6 (X.setTop 9 id) w')) ∧ WV h' (X.setTop 9 id) w') ∧ (b = false → h' p = h p ∧ ∀ j ∈ X.ids, h' j = h j) ∧ ∀ j, j < nx → j ≠ p → j ∉ X.ids → h' j = h j
theorem wRow_setTop (X : WI) (w : Wld) (i id : Nat) : ∀ k, zM1 (X.setTop i id) w k = zM1 X w k := fun k => by unfold zM1; rfl
theorem WV.newTop {h h' : zX} {X : WI} {w w' : Wld} {i id : Nat} (S : List Nat) (v : WV h X w) (hi : i < 15) (hn : id ∉ X.ids) (hr : h' id = some (zM1 X w' i)) (hS : ∀ k ∈ S, k < 15) (hrS : ∀ k ∈ S, h' (X.top k) = some (zM1 X w' k))
    (ho : ∀ k, k < 15 → k ∉ S → k ≠ i → zM1 X w' k = zM1 X w k) (hp : w'.progs = w.progs) (hg : w'.groups = w.groups) (hf : ∀ j ∈ X.ids, (∀ k ∈ S, j ≠ X.top k) → j ≠ X.top i → h' j = h j) : WV h' (X.setTop i id) w' where
  top k hk := by
    rw [wRow_setTop]
    by_cases e : k = i
    · subst e
      have : (X.setTop k id).top k = id := if_pos rfl
      rw [this]; exact hr
    · have : (X.setTop i id).top k = X.top k := if_neg e
      rw [this]
      by_cases e2 : k ∈ S
      · exact hrS k e2
      · rw [ho k hk e2 e, hf _ (WI.top_mem hk) (fun l hl e3 => e2 (v.top_inj hk (hS l hl) e3 ▸ hl)) (fun e3 => e (v.top_inj hk hi e3))]
        exact v.top k hk
  pl := by rw [hp]; exact v.pl
  gl := by rw [hg]; exact v.gl
  prog j p id h1 h2 := by
    rw [hp] at h1
    have hm : id ∈ X.pg := List.mem_of_getElem? h2
    rw [hf id (WI.pg_mem hm) (fun l hl e => v.top_pg (hS l hl) (e ▸ hm)) (fun e => v.top_pg hi (e ▸ hm))]
    exact v.prog j p id h1 h2
  wait j g id h1 h2 := by
    rw [hg] at h1
    have hm : id ∈ X.gr := List.mem_of_getElem? h2
    rw [hf id (WI.gr_mem hm) (fun l hl e => v.top_gr (hS l hl) (e ▸ hm)) (fun e => v.top_gr hi (e ▸ hm))]
    exact v.wait j g id h1 h2
  nd := by
    obtain ⟨n1, n2, n3⟩ := List.nodup_append.1 v.nd
    have tne : ∀ k, k < 15 → X.top k ≠ id := fun k hk e => hn (e ▸ WI.top_mem hk)
    refine List.nodup_append.2 ⟨?_, n2, fun a ha b hb => ?_⟩
    · refine List.pairwise_map.2 (List.Pairwise.imp_of_mem ?_ (List.nodup_range (n := 15)))
      intro a b ha hb hab
      have ha := List.mem_range.1 ha
      have hb := List.mem_range.1 hb
      show (if a = i then id else X.top a) ≠ (if b = i then id else X.top b)
      by_cases e1 : a = i
      · rw [if_pos e1, if_neg (fun e => hab (e1.trans e.symm))]
        exact fun e => tne b hb e.symm
      · rw [if_neg e1]
        by_cases e2 : b = i
        · rw [if_pos e2]; exact tne a ha
        · rw [if_neg e2]; exact fun e => hab (v.top_inj ha hb e)
    · obtain ⟨k, hk, rfl⟩ := List.mem_map.1 ha
      have hk2 := List.mem_range.1 hk
      show (if k = i then id else X.top k) ≠ b
      by_cases e : k = i
      · rw [if_pos e]
        intro e2
        exact hn (by rw [e2]; simp only [WI.ids, List.mem_append] at hb ⊢; exact .inr hb)
      · rw [if_neg e]
        exact n3 (X.top k) (List.mem_map.2 ⟨k, hk, rfl⟩) b hb
def StQ (p : Nat) (X : WI) (w : Wld) (h : zX) (nx : Nat) (r : AV) (h' : zX) (nx' : Nat) : Prop :=
  (∀ i : Nat, goAt w.afters = some i → r = .tup [.agg (yI (gt w.afters.list (i : Int))), .bool true] ∧ ∃ id, nx ≤ id ∧ id < nx' ∧ h' p = some (.obj (zD6 (X.setTop 9 id) { w with afters := goA w.afters i })) ∧ WV h' (X.setTop 9 id) { w with afters := goA w.afters i }) ∧
    (goAt w.afters = none → r = .tup [.agg (yI default), .bool false] ∧ h' p = h p ∧ ∀ j ∈ X.ids, h' j = h j) ∧ ∀ j, j < nx → j ≠ p → j ∉ X.ids → h' j = h j
theorem goAt_some {a : Afs} {i : Nat} (hi : i < a.list.length) (h0 : ∀ k : Nat, k < i → isGo a (gt a.list (k : Int)) = false) (h1 : isGo a (gt a.list (i : Int)) = true) : goAt a = some i := by
  unfold goAt
  rw [List.findIdx?_eq_some_iff_getElem]
  refine ⟨hi, ?_, fun j hj => ?_⟩
  · rw [vW hi] at h1; exact h1
  · have := h0 j hj
    rw [vW (by omega)] at this
    rw [this]; decide
theorem goAt_none {a : Afs} (h0 : ∀ k : Nat, k < a.list.length → isGo a (gt a.list (k : Int)) = false) : goAt a = none := by
  unfold goAt
  rw [List.findIdx?_eq_none_iff]
  intro x hx
  obtain ⟨k, hk, rfl⟩ := List.getElem_of_mem hx
  have := h0 k hk
  rw [vW hk] at this
  exact this
theorem cntB_le {α : Type} (q : α → Bool) (l : List α) : cntB q l ≤ l.length := by
  simp only [cntB]; exact Int.ofNat_le.2 List.countP_le_length
theorem afs_facts {a : Afs} (h : uU a = true) : a.slots.used.length = a.slots.ages.length ∧ a.list.length ≤ 64 ∧
    ∀ k : Nat, k < a.list.length → vS a.slots (gt a.list (k : Int)).han = true → 0 ≤ (gt a.list (k : Int)).han.age ∧ (gt a.list (k : Int)).han.age < 1000000 := by
  simp only [uU, zC8, Bool.and_eq_true, beq_iff_eq, Bool.not_eq_true', inR, decide_eq_true_eq] at h
  obtain ⟨⟨⟨h1, h2⟩, h3, h4⟩, h5, h6⟩ := h
  have h7 := cntB_le id a.slots.used
  refine ⟨by omega, by omega, fun k hk hc => ?_⟩
  simp only [vS, yN, Bool.and_eq_true, beq_iff_eq, vV, inR, decide_eq_true_eq, bne_iff_ne] at hc
  obtain ⟨⟨⟨c1, c2⟩, c3, c4⟩, c5⟩ := hc
  rw [List.any_eq_false] at h4
  have hm : gt a.slots.ages (gt a.list (k : Int)).han.slot ∈ a.slots.ages := zC7 c1 (by omega)
  have := h4 _ hm
  simp at this
  rw [← c4] at c5 ⊢
  omega
theorem ho_take {α : Type} {f : α → List AV} (hf : ∀ x, (f x).all AV.one = true) (xs : List α) (i : Nat) : ((xs.map f).take i).all (fun cs => cs.all AV.one) = true := by
  rw [List.all_eq_true]
  intro c hc
  obtain ⟨y, _, rfl⟩ := List.mem_map.1 (List.mem_of_mem_take hc)
  exact hf y
theorem ho_drop {α : Type} {f : α → List AV} (hf : ∀ x, (f x).all AV.one = true) (xs : List α) (i : Nat) : ((xs.map f).drop i).all (fun cs => cs.all AV.one) = true := by
  rw [List.all_eq_true]
  intro c hc
  obtain ⟨y, _, rfl⟩ := List.mem_map.1 (List.mem_of_mem_drop hc)
  exact hf y
theorem afr_one (x : Afr) : (yI x).all AV.one = true := rfl
theorem allI_get {α : Type} [Inhabited α] {q : Int → α → Bool} : ∀ {l : List α} {k : Int}, uF q l k = true → ∀ i : Nat, i < l.length → q (k + i) (gt l (i : Int)) = true
  | x :: xs, k, h, 0, _ => by
    simp only [uF, Bool.and_eq_true] at h
    rw [vW (by simp)]; simpa using h.1
  | x :: xs, k, h, i + 1, hi => by
    simp only [uF, Bool.and_eq_true] at h
    have := allI_get h.2 i (by simpa using hi)
    rw [vW (by simpa using hi)] at this
    rw [vW hi]
    simp only [List.getElem_cons_succ]
    rw [show k + ((i + 1 : Nat) : Int) = k + 1 + (i : Int) by omega]
    exact this
theorem afs_held {a : Afs} (h : uU a = true) : ∀ k : Nat, k < a.list.length → yN a.slots (gt a.list (k : Int)).han = true := fun k hk => by
  simp only [uU, Bool.and_eq_true] at h
  have := allI_get h.2.2 k hk
  simp only [Bool.and_eq_true] at this
  exact this.2.1
def goW (w : Wld) : Wld := if zE1 w = true then uZ w else default
def goB (w : Wld) : Bool := zE1 w && zD7 w
def PdQ (r' : AV) (h : zX) (nx : Nat) (r : AV) (h' : zX) (nx' : Nat) : Prop := ∃ g : zX, (∀ id e, g id = some e → h' id = some e ∧ nx ≤ id) ∧ Fro g r r' ∧ KeepB nx h' h
theorem fro_mix {h1 g : zX} {X : WI} {w : Wld} {a : Afs} {bs : List Int} {nb len : Nat} (v : WV h1 X w) (hg : ∀ j ∈ X.ids, j ≠ X.top 13 → g j = h1 j) (hb : g nb = some (.row 1 (bs.map iv))) (hl : len = bs.length) :
    Fros g [.int .i64 w.now, .ref (X.top 0) 1 0 w.progs.length, .ref (X.top 1) 5 0 w.tree.length, .ref (X.top 2) 4 0 w.events.length, .ref (X.top 3) 1 0 w.spread.told.length, .ref (X.top 4) 1 0 w.spread.work.length,
      .ref (X.top 5) 3 0 w.timers.heap.length, .ref (X.top 6) 5 0 w.timers.list.length, .int .i64 w.timers.next, .view true 1 (a.slots.ages.map iv), .view true 1 (a.slots.used.map bv), .view true 5 (a.list.map yI),
      .ref (X.top 10) 9 0 w.tasks.length, .ref (X.top 11) 5 0 w.groups.length, .ref (X.top 12) 4 0 w.sights.length, .ref nb 1 0 len, .ref (X.top 14) 1 0 w.rang.length] (wldV (fun _ => true) { w with afters := a, began := bs }) := by
  have t : ∀ k, k < 15 → k ≠ 13 → g (X.top k) = some (zM1 X w k) := fun k hk h13 => by
    rw [hg _ (WI.top_mem hk) (fun e => h13 (v.top_inj hk (by omega) e))]; exact v.top k hk
  have tp : ∀ (j : Nat) p id, w.progs[j]? = some p → X.pg[j]? = some id → g id = some (.row 3 (p.map vU)) := fun j p id h1 h2 => by
    have hm := List.mem_of_getElem? h2
    rw [hg _ (WI.pg_mem hm) (fun e => v.top_pg (k := 13) (by omega) (e ▸ hm))]; exact v.prog j p id h1 h2
  have tg : ∀ (j : Nat) x id, w.groups[j]? = some x → X.gr[j]? = some id → g id = some (.row 1 (x.waits.map iv)) := fun j p id h1 h2 => by
    have hm := List.mem_of_getElem? h2
    rw [hg _ (WI.gr_mem hm) (fun e => v.top_gr (k := 13) (by omega) (e ▸ hm))]; exact v.wait j p id h1 h2
  subst hl
  unfold wldV
  refine .cons (.same _) (.cons (Fro.zip v.pl (t 0 (by omega) (by omega)) rfl fun j x k hx hk => .cons (.ref0 (tp j x k hx hk) (by simp)) .nil) (.cons (.ref0 (t 1 (by omega) (by omega)) (by simp)) (.cons (.ref0 (t 2 (by omega) (by omega)) (by simp)) (.cons (.ref0 (t 3 (by omega) (by omega)) (by simp))
    (.cons (.ref0 (t 4 (by omega) (by omega)) (by simp)) (.cons (.ref0 (t 5 (by omega) (by omega)) (by simp)) (.cons (.ref0 (t 6 (by omega) (by omega)) (by simp)) (.cons (.same _) (.cons (.same _) (.cons (.same _) (.cons (.same _)
    (.cons (.ref0 (t 10 (by omega) (by omega)) (by simp)) (.cons (Fro.zip v.gl (t 11 (by omega) (by omega)) rfl fun j x k hx hk => .cons (.same _) (.cons (.same _) (.cons (.same _) (.cons (.ref0 (tg j x k hx hk) (by simp)) (.cons (.same _) .nil))))) (.cons (.ref0 (t 12 (by omega) (by omega)) (by simp))
    (.cons (.ref0 hb (by simp)) (.cons (.ref0 (t 14 (by omega) (by omega)) (by simp)) .nil))))))))))))))))
theorem AC.pcD {P : Program} {f : FuncId} {args : List AV} {r' : AV} (hz : Fz r') (hc : AC P f args (fun _ _ => True) (PdQ r')) : PC P f args r' := by
  intro h nx Q hQ
  refine ⟨(hc h nx trivial).1, fun ρ I w0 vs hnm H hvs => ?_⟩
  have hlt : ∀ j, h j ≠ none → j < nx := by
    intro j hj
    cases he : h j with
    | none => exact absurd he hj
    | some e => obtain ⟨B, hB⟩ := (H.ent he).base; exact hnm j B hB
  have := ACall.pureF (R := fun r => r = r') (Q := Q) (ACall.freezeD ((hc h nx trivial).mono (Q' := fun r h' nx' => ∃ (g k : zX) (r0 : AV), (∀ id e, g id = some e → h' id = some e) ∧ (∀ id e, k id = some e → h' id = some e) ∧ (∀ id, g id = none ∨ k id = none) ∧ Fro g r r0 ∧ ((∀ id e, h id = some e → k id = some e) ∧ Fz r0 ∧ r0 = r')) ?_)) (fun r' hr => hr ▸ hQ)
  · exact this.2 ρ I w0 vs hnm H hvs
  · rintro r h' nx' ⟨⟨g, hg, hfr, hk⟩, _, _⟩
    refine ⟨g, fun j => if j < nx then h' j else none, r', fun id e he => (hg id e he).1, fun id e he => ?_, fun id => ?_, hfr, fun id e he => ?_, hz, rfl⟩
    · dsimp only at he; split at he
      · exact he
      · cases he
    · by_cases hid : id < nx
      · left
        cases hgi : g id with
        | none => rfl
        | some e => have := (hg id e hgi).2; omega
      · right; exact if_neg hid
    · have hid := hlt id (by rw [he]; simp)
      dsimp only
      rw [if_pos hid, hk id hid]; exact he
end Go.AE
end

section
/- A valid world stays valid when a function is started. -/
namespace Go.AE
set_option linter.unusedVariables false
theorem allI_mk {α : Type} [Inhabited α] {q : Int → α → Bool} : ∀ {l : List α} {k : Int}, (∀ i : Nat, i < l.length → q (k + i) (gt l (i : Int)) = true) → uF q l k = true
  | [], k, _ => rfl
  | x :: xs, k, h => by
    simp only [uF, Bool.and_eq_true]
    refine ⟨by have := h 0 (by simp); rw [vW (by simp)] at this; simpa using this, allI_mk fun i hi => ?_⟩
    have := h (i + 1) (by simpa using hi)
    rw [vW (by simpa using hi)] at this
    rw [vW hi]
    simp only [List.getElem_cons_succ] at this
    rw [show k + ((i + 1 : Nat) : Int) = k + 1 + (i : Int) by omega] at this
    exact this
theorem afsOk_iff {a : Afs} : uU a = true ↔ zC8 a.slots = true ∧ (a.list.length : Int) = cntB id a.slots.used ∧ (∀ x ∈ a.list, uO x.node x.fn = true ∧ yN a.slots x.han = true) ∧ a.list.Pairwise (fun x y => x.han ≠ y.han) := by
  have key : ∀ i : Nat, i < a.list.length → ((afsAt a.list (gt a.list (i : Int)).han == (i : Int)) = true ↔ ∀ x ∈ a.list.take i, x.han ≠ (gt a.list (i : Int)).han) := fun i hi => by
    rw [afsAt_here hi, decide_eq_true_eq, idxI_none _ _ 0 (Int.le_refl 0)]
    constructor
    · intro h x hx e
      have := h x hx
      simp [e] at this
    · intro h x hx
      have := h x hx
      simpa using this
  constructor
  · intro h
    simp only [uU, Bool.and_eq_true, beq_iff_eq] at h
    obtain ⟨h1, h2, h3⟩ := h
    refine ⟨h1, h2, fun x hx => ?_, ?_⟩
    · obtain ⟨i, hi, rfl⟩ := List.getElem_of_mem hx
      have := allI_get h3 i hi
      rw [vW hi] at this
      simp only [Bool.and_eq_true] at this
      exact ⟨this.1, this.2.1⟩
    · rw [List.pairwise_iff_getElem]
      intro i j hi hj hij
      have := allI_get h3 j hj
      simp only [Bool.and_eq_true, Int.zero_add] at this
      have h4 := (key j hj).1 this.2.2 a.list[i] (List.mem_take_iff_getElem.2 ⟨i, by omega, rfl⟩)
      rw [vW hj] at h4
      exact h4
  · rintro ⟨h1, h2, h3, h4⟩
    simp only [uU, Bool.and_eq_true, beq_iff_eq]
    refine ⟨h1, h2, allI_mk fun i hi => ?_⟩
    simp only [Bool.and_eq_true, Int.zero_add]
    have hm : gt a.list (i : Int) ∈ a.list := by rw [vW hi]; exact List.getElem_mem hi
    refine ⟨(h3 _ hm).1, (h3 _ hm).2, (key i hi).2 fun x hx => ?_⟩
    obtain ⟨j, hj, rfl⟩ := List.mem_take_iff_getElem.1 hx
    rw [vW hi]
    exact List.pairwise_iff_getElem.1 h4 j i (by omega) hi (by omega)
theorem afsOk_go {a : Afs} {i : Nat} (h : uU a = true) (hi : i < a.list.length) (hc : vS a.slots (gt a.list (i : Int)).han = true) : uU (goA a i) = true := by
  obtain ⟨f1, f2, f3⟩ := afs_facts h
  have hr := f3 i hi hc
  rw [afsOk_iff] at h ⊢
  obtain ⟨h1, h2, h3, h4⟩ := h
  have hx : gt a.list (i : Int) = a.list[i] := vW hi
  rw [hx] at hc hr
  have hh : yN a.slots a.list[i].han = true := (h3 _ (List.getElem_mem hi)).2
  have hp := List.pairwise_iff_getElem.1 h4
  have hg : goA a i = ⟨zL8 a.slots a.list[i].han, a.list.eraseIdx i⟩ := by unfold goA; rw [hx]
  rw [hg]
  generalize hxx : a.list[i] = x at *
  have hh0 := hh
  simp only [yN, Bool.and_eq_true, vV, inR, decide_eq_true_eq, beq_iff_eq] at hh
  obtain ⟨⟨c1, c2⟩, c3, c4⟩ := hh
  have n1 : x.han.slot.toNat < a.slots.ages.length := by omega
  have n2 : x.han.slot.toNat < a.slots.used.length := by omega
  refine ⟨?_, ?_, fun y hy => ?_, List.Pairwise.sublist (List.eraseIdx_sublist _ _) h4⟩
  · simp only [zC8, zL8, Bool.and_eq_true, List.length_set, beq_iff_eq, Bool.not_eq_true', List.any_eq_false] at h1 ⊢
    refine ⟨h1.1, h1.2.1, fun z hz => ?_⟩
    rcases List.mem_or_eq_of_mem_set hz with q | q
    · exact h1.2.2 z q
    · subst q; simp [inR]; omega
  · have e : (a.list.eraseIdx i).length = a.list.length - 1 := by rw [List.length_eraseIdx, if_pos hi]
    have hu : a.slots.used[x.han.slot.toNat] = true := by
      have := zD9 c1 (show x.han.slot < (a.slots.used.length : Int) by omega)
      rw [c3, List.getElem?_eq_getElem n2] at this
      exact Option.some.inj this
    have e2 : (a.slots.used.set x.han.slot.toNat false).countP id = a.slots.used.countP id - 1 := by
      rw [List.countP_set n2]; simp [hu]
    simp only [zL8, cntB, e2] at h2 ⊢
    rw [e]; omega
  · obtain ⟨j, hj, hji, rfl⟩ := List.mem_eraseIdx_iff_getElem.1 hy
    have hm := h3 _ (List.getElem_mem hj)
    refine ⟨hm.1, ?_⟩
    have hne : a.list[j].han ≠ x.han := by
      rw [← hxx]
      rcases Nat.lt_or_gt_of_ne hji with q | q
      · exact hp j i hj hi q
      · exact fun e => hp i j hi hj q e.symm
    have hd := hm.2
    simp only [yN, Bool.and_eq_true, vV, inR, decide_eq_true_eq, beq_iff_eq] at hd
    obtain ⟨⟨d1, d2⟩, d3, d4⟩ := hd
    have hs : a.list[j].han.slot ≠ x.han.slot := fun e => hne (by
      rw [e] at d4
      have ha : a.list[j].han.age = x.han.age := by rw [← d4, ← c4]
      cases hq : a.list[j].han
      cases hx2 : x.han
      simp_all)
    have hs2 : x.han.slot.toNat ≠ a.list[j].han.slot.toNat := by omega
    have g1 : gt (a.slots.used.set x.han.slot.toNat false) a.list[j].han.slot = gt a.slots.used a.list[j].han.slot := by
      have p1 := zD9 d1 (show a.list[j].han.slot < ((a.slots.used.set x.han.slot.toNat false).length : Int) by simp; omega)
      have p2 := zD9 d1 (show a.list[j].han.slot < (a.slots.used.length : Int) by omega)
      rw [List.getElem?_set_ne hs2, p2] at p1
      exact (Option.some.inj p1).symm
    have g2 : gt (a.slots.ages.set x.han.slot.toNat (x.han.age + 1)) a.list[j].han.slot = gt a.slots.ages a.list[j].han.slot := by
      have p1 := zD9 d1 (show a.list[j].han.slot < ((a.slots.ages.set x.han.slot.toNat (x.han.age + 1)).length : Int) by simp; omega)
      have p2 := zD9 d1 (show a.list[j].han.slot < (a.slots.ages.length : Int) by omega)
      rw [List.getElem?_set_ne hs2, p2] at p1
      exact (Option.some.inj p1).symm
    simp only [yN, zL8, Bool.and_eq_true, vV, inR, decide_eq_true_eq, beq_iff_eq, List.length_set, g1, g2]
    exact ⟨⟨d1, d2⟩, d3, d4⟩
theorem wldOk_go {w : Wld} {i : Nat} (h : zE1 w = true) (hg : goAt w.afters = some i) : zE1 (uZ w) = true := by
  have hgo := hg
  unfold goAt at hg
  rw [List.findIdx?_eq_some_iff_getElem] at hg
  obtain ⟨hi, hgi, _⟩ := hg
  have e0 : uZ w = { w with afters := goA w.afters i, began := if w.began.length < 2000 then w.began ++ [(gt w.afters.list (i : Int)).fn] else w.began } := by simp [uZ, hgo]
  rw [e0]
  generalize hbs : (if w.began.length < 2000 then w.began ++ [(gt w.afters.list (i : Int)).fn] else w.began) = bs
  have e1 : zC6 { w with afters := goA w.afters i, began := bs } = zC6 w := rfl
  have e2 : zB4 { w with afters := goA w.afters i, began := bs } = zB4 w := rfl
  have e3 : uR { w with afters := goA w.afters i, began := bs } = uR w := rfl
  have e4 : zB5 { w with afters := goA w.afters i, began := bs } = zB5 w := rfl
  have hgt : gt w.afters.list (i : Int) = w.afters.list[i] := vW hi
  simp only [isGo, Bool.and_eq_true] at hgi
  simp only [zE1, e1, e2, e3, e4, Bool.and_eq_true, decide_eq_true_eq] at h ⊢
  obtain ⟨h1, h2, h3, h4, h5, h6, h7, h8, h9, h10, h11, h12, h13, h14, h15, h16, h17, h18, h19, h20⟩ := h
  have hfn : inR (w.afters.list[i]).fn 0 99 = true := by
    have := ((afsOk_iff.1 h9).2.2.1 _ (List.getElem_mem hi)).1
    simp only [uO, Bool.and_eq_true] at this
    exact this.2
  refine ⟨h1, h2, h3, h4, h5, h6, h7, h8, afsOk_go h9 hi (by rw [hgt]; exact hgi.2), ?_, h11, h12, h13, h14, h15, ?_, h17, h18, ?_, h20⟩
  · simp only [List.all_eq_true, goA] at h10 ⊢
    exact fun x hx => h10 x (List.mem_of_mem_eraseIdx hx)
  · rw [← hbs]; split
    · simp; omega
    · exact h16
  · rw [← hbs]; split
    · rw [List.all_append, h19, hgt]; simpa using hfn
    · exact h19
theorem start_ask {w : Wld} : askW w (uZ w) (zD7 w) = goW w ∧ askB w (uZ w) (zD7 w) = goB w := by
  by_cases hw : zE1 w = true
  · cases hg : goAt w.afters with
    | none =>
      have e : uZ w = w := by simp [uZ, hg]
      have e2 : zD7 w = false := by simp [zD7, hg]
      simp [askW, askB, goW, goB, hw, e, e2]
    | some i =>
      have e2 : zD7 w = true := by simp [zD7, hg]
      have h := wldOk_go hw hg
      simp [askW, askB, goW, goB, hw, e2, h]
  · simp [askW, askB, goW, goB, hw]
end Go.AE
end
