/- A small separation logic over the model's heap: assertions on pieces of the heap, lists of them, and what may be done with such a list. -/
import Derived.WalkKit
import Derived.Recover
import Derived.OrdersHeld
import Derived.KernelRfl
set_option linter.unusedVariables false
set_option linter.unusedSimpArgs false
namespace Go.Px
inductive Res where
 | obj (o : Obj)
 | rest (os : Os) (out : Array (Nat × ByteArray))
abbrev Hp := Nat → Option Res
abbrev HP := Hp → Prop
def djoin (h h1 h2 : Hp) : Prop := ∀ b, (h1 b = none ∧ h2 b = h b) ∨ (h2 b = none ∧ h1 b = h b)
def sep : List HP → HP
 | [] => fun _ => True
 | A :: Γ => fun h => ∃ h1 h2, djoin h h1 h2 ∧ A h1 ∧ sep Γ h2
theorem djoin.symm {h h1 h2 : Hp} (d : djoin h h1 h2) : djoin h h2 h1 := fun b => (d b).symm
theorem djoin.assoc {h h1 h2 a b : Hp} (d : djoin h h1 h2) (e : djoin h2 a b) : ∃ k, djoin h a k ∧ djoin k h1 b := by
 refine ⟨fun x => match h1 x with | none => b x | some o => some o, fun x => ?_, fun x => ?_⟩
 rotate_left 1
 · dsimp only
   cases h' : h1 x with
   | none => left; exact ⟨rfl, rfl⟩
   | some o =>
    right
    refine ⟨?_, rfl⟩
    rcases d x with ⟨p, q⟩ | ⟨p, q⟩
    · rw [h'] at p; cases p
    rcases e x with ⟨r, s⟩ | ⟨r, s⟩
    · rw [s, p]
    exact r
 dsimp only
 rcases d x with ⟨p, q⟩ | ⟨p, q⟩ <;> rcases e x with ⟨r, s⟩ | ⟨r, s⟩
 · left; refine ⟨r, ?_⟩; rw [p]; simp only; rw [s, q]
 · right; refine ⟨?_, ?_⟩; rw [p]; simp only; exact r; rw [s, q]
 · left; refine ⟨r, ?_⟩
   cases h' : h1 x with
   | none => simp only; rw [s, p, ← q, h']
   | some o => simp only; rw [← q, h']
 left; refine ⟨by rw [s, p], ?_⟩
 cases h' : h1 x with
 | none => simp only; rw [r, ← q, h']
 | some o => simp only; rw [← q, h']
theorem djoin.assoc' {h h1 h2 a b : Hp} (d : djoin h h1 h2) (e : djoin h1 a b) : ∃ k, djoin h a k ∧ djoin k b h2 := by
 obtain ⟨k, k1, k2⟩ := djoin.assoc d.symm e
 exact ⟨k, k1, k2.symm⟩
theorem sep_up : ∀ (Γ : List HP) {h2 h : Hp}, sep Γ h2 → (∀ b, h2 b = none ∨ h2 b = h b) → sep Γ h
 | [], _, _, _, _ => trivial
 | A :: Γ, h2, h, ⟨ha, hb, d, pa, pb⟩, up => by
  refine ⟨ha, fun b => match ha b with | none => h b | some _ => none, fun b => ?_, pa, sep_up Γ pb fun b => ?_⟩
  rotate_left 1
  · rcases d b with ⟨p, q⟩ | ⟨p, q⟩
    · rw [p]
      rcases up b with u | u
      · left; rw [q, u]
      right; rw [q, u]
    left; exact p
  dsimp only
  cases hx : ha b with
  | none => left; exact ⟨rfl, rfl⟩
  | some o =>
   right
   refine ⟨rfl, ?_⟩
   rcases d b with ⟨p, q⟩ | ⟨p, q⟩
   · rw [hx] at p; cases p
   rcases up b with u | u
   · rw [u, hx] at q; cases q
   rw [← u, ← q, hx]
theorem sep_drop {A : HP} {Γ : List HP} {h : Hp} (s : sep (A :: Γ) h) : sep Γ h := by
 obtain ⟨h1, h2, d, -, p⟩ := s
 exact sep_up Γ p fun b => by rcases d b with ⟨_, q⟩ | ⟨q, _⟩; exact .inr q; exact .inl q
theorem sep_swap {A B : HP} {Γ : List HP} {h : Hp} (s : sep (A :: B :: Γ) h) : sep (B :: A :: Γ) h := by
 obtain ⟨h1, h2, d, pa, h3, h4, e, pb, p⟩ := s
 obtain ⟨k, k1, k2⟩ := djoin.assoc d e
 exact ⟨h3, k, k1, pb, h1, h4, k2, pa, p⟩
theorem sep_tail {A : HP} {Γ Δ : List HP} (f : ∀ h, sep Γ h → sep Δ h) {h : Hp} (s : sep (A :: Γ) h) : sep (A :: Δ) h := by
 obtain ⟨h1, h2, d, pa, p⟩ := s
 exact ⟨h1, h2, d, pa, f _ p⟩
theorem sep_head {A B : HP} {Γ : List HP} (f : ∀ h, A h → B h) {h : Hp} (s : sep (A :: Γ) h) : sep (B :: Γ) h := by
 obtain ⟨h1, h2, d, pa, p⟩ := s
 exact ⟨h1, h2, d, f _ pa, p⟩
theorem sep_append : ∀ (Δ : List HP) {Γ : List HP} {h h1 h2 : Hp}, djoin h h1 h2 → sep Δ h1 → sep Γ h2 → sep (Δ ++ Γ) h
 | [], Γ, h, h1, h2, d, _, p => sep_up Γ p fun b => by rcases d b with ⟨_, q⟩ | ⟨q, _⟩; exact .inr q; exact .inl q
 | A :: Δ, Γ, h, h1, h2, d, ⟨ha, hb, e, pa, pb⟩, p => by
  obtain ⟨k, k1, k2⟩ := djoin.assoc' d e
  exact ⟨ha, k, k1, pa, sep_append Δ k2 pb p⟩
theorem sep_split : ∀ (Δ : List HP) {Γ : List HP} {h : Hp}, sep (Δ ++ Γ) h → ∃ h1 h2, djoin h h1 h2 ∧ sep Δ h1 ∧ sep Γ h2
 | [], Γ, h, p => ⟨fun _ => none, h, fun b => .inl ⟨rfl, rfl⟩, trivial, p⟩
 | A :: Δ, Γ, h, ⟨ha, hb, d, pa, p⟩ => by
  obtain ⟨h1, h2, e, q, r⟩ := sep_split Δ p
  obtain ⟨k, k1, k2⟩ := djoin.assoc d e.symm
  exact ⟨k, h2, k1.symm, ⟨ha, h1, k2, pa, q⟩, r⟩
def Ent (Γ Δ : List HP) : Prop := ∀ h, sep Γ h → sep Δ h
theorem Ent.refl (Γ : List HP) : Ent Γ Γ := fun _ s => s
theorem Ent.trans {Γ Δ Λ : List HP} (a : Ent Γ Δ) (b : Ent Δ Λ) : Ent Γ Λ := fun h s => b h (a h s)
theorem Ent.nil (Γ : List HP) : Ent Γ [] := fun _ _ => trivial
theorem ent_front : ∀ (i : Nat) {Γ : List HP} {A : HP}, Γ[i]? = some A → Ent Γ (A :: Γ.eraseIdx i)
 | 0, B :: Γ, A, e => by
  have : B = A := by simpa using e
  subst this
  exact Ent.refl _
 | i + 1, B :: Γ, A, e => by
  have e' : Γ[i]? = some A := by simpa using e
  have ih := ent_front i e'
  exact fun h s => sep_swap (sep_tail (A := B) (Δ := A :: Γ.eraseIdx i) ih s)
 | i, [], A, e => by simp at e
theorem Ent.pick (i : Nat) {Γ Δ : List HP} {A : HP} (e : Γ[i]? = some A) (k : Ent (Γ.eraseIdx i) Δ) : Ent Γ (A :: Δ) :=
 (ent_front i e).trans fun h s => sep_tail k s
theorem Ent.drop (i : Nat) {Γ Δ : List HP} {A : HP} (e : Γ[i]? = some A) (k : Ent (Γ.eraseIdx i) Δ) : Ent Γ Δ :=
 (ent_front i e).trans fun h s => k h (sep_drop s)
theorem Ent.tail {Γ Δ : List HP} {A : HP} (k : Ent Γ Δ) : Ent (A :: Γ) (A :: Δ) := fun h s => sep_tail k s
theorem Ent.dropHead {Γ Δ : List HP} {A : HP} (k : Ent Γ Δ) : Ent (A :: Γ) Δ := fun h s => k h (sep_drop s)
theorem Ent.head {Γ : List HP} {A B : HP} (k : ∀ h, A h → B h) : Ent (A :: Γ) (B :: Γ) := fun h s => sep_head k s
def All (Δ : List HP) : HP := sep Δ
theorem ent_all (Δ Γ : List HP) : Ent (All Δ :: Γ) (Δ ++ Γ) := fun h ⟨h1, h2, d, p, q⟩ => sep_append Δ d p q
theorem all_ent (Δ Γ : List HP) : Ent (Δ ++ Γ) (All Δ :: Γ) := fun h s => by
 obtain ⟨h1, h2, d, p, q⟩ := sep_split Δ s
 exact ⟨h1, h2, d, p, q⟩
def Pr (p : Prop) : HP := fun _ => p
theorem sep_pure {p : Prop} {Γ : List HP} {h : Hp} (s : sep (Pr p :: Γ) h) : p := by
 obtain ⟨_, _, _, q, _⟩ := s; exact q
theorem ent_pure {p : Prop} (q : p) (Γ : List HP) : Ent Γ (Pr p :: Γ) := fun h s => ⟨fun _ => none, h, fun b => .inl ⟨rfl, rfl⟩, q, s⟩
def Blk (b : Nat) (o : Obj) : HP := fun h => h (b + 1) = some (.obj o) ∧ ∀ c, c ≠ b + 1 → h c = none
def Rst (os : Os) (out : Array (Nat × ByteArray)) : HP := fun h => h 0 = some (.rest os out) ∧ ∀ c, c ≠ 0 → h c = none
def hpOf (w : World) : Hp
 | 0 => some (.rest w.os w.output)
 | b + 1 => (w.heap[b]?).map .obj
def Sat (Γ : List HP) (w : World) : Prop := sep Γ (hpOf w)
theorem Sat.mono {Γ Δ : List HP} {w : World} (s : Sat Γ w) (e : Ent Γ Δ) : Sat Δ w := e _ s
theorem hpOf_eq {w w' : World} (e : w'.heap = w.heap) (eo : w'.os = w.os) (eu : w'.output = w.output) : hpOf w' = hpOf w := by
 funext b
 cases b with
 | zero => show some (Res.rest w'.os w'.output) = some (Res.rest w.os w.output); rw [eo, eu]
 | succ b => show (w'.heap[b]?).map Res.obj = (w.heap[b]?).map Res.obj; rw [e]
theorem Sat.of_heap {Γ : List HP} {w w' : World} (s : Sat Γ w) (e : w'.heap = w.heap) (eo : w'.os = w.os := by rfl) (eu : w'.output = w.output := by rfl) : Sat Γ w' := by
 unfold Sat at *; rw [hpOf_eq e eo eu]; exact s
theorem sep_blk {b : Nat} {o : Obj} {Γ : List HP} {h : Hp} (s : sep (Blk b o :: Γ) h) : h (b + 1) = some (.obj o) := by
 obtain ⟨h1, h2, d, ⟨p, _⟩, _⟩ := s
 rcases d (b + 1) with ⟨q, _⟩ | ⟨_, q⟩
 · rw [p] at q; cases q
 rw [← q, p]
theorem Sat.blk {b : Nat} {o : Obj} {Γ : List HP} {w : World} (s : Sat (Blk b o :: Γ) w) : w.heap[b]? = some o := by
 have h : (w.heap[b]?).map Res.obj = some (.obj o) := sep_blk s
 cases e : w.heap[b]? with
 | none => rw [e] at h; cases h
 | some x => rw [e] at h; cases h; rfl
theorem Sat.rest {os : Os} {out : Array (Nat × ByteArray)} {Γ : List HP} {w : World} (s : Sat (Rst os out :: Γ) w) : w.os = os ∧ w.output = out := by
 obtain ⟨h1, h2, d, ⟨p, _⟩, _⟩ := s
 rcases d 0 with ⟨q, _⟩ | ⟨_, q⟩
 · rw [p] at q; cases q
 rw [p] at q
 have q : some (Res.rest os out) = some (Res.rest w.os w.output) := q
 cases q; exact ⟨rfl, rfl⟩
theorem sep_put {b : Nat} {o o' : Obj} {Γ : List HP} {h h' : Hp} (s : sep (Blk b o :: Γ) h) (hb : h' (b + 1) = some (.obj o')) (hn : ∀ c, c ≠ b + 1 → h' c = h c) :
 sep (Blk b o' :: Γ) h' := by
 obtain ⟨h1, h2, d, ⟨p, n⟩, q⟩ := s
 refine ⟨fun c => if c = b + 1 then some (.obj o') else none, h2, fun c => ?_, ⟨by simp, fun c hc => by simp [hc]⟩, q⟩
 by_cases hc : c = b + 1
 · subst hc
   right
   refine ⟨?_, by simp [hb]⟩
   rcases d (b + 1) with ⟨r, _⟩ | ⟨r, _⟩
   · rw [p] at r; cases r
   exact r
 left
 refine ⟨by simp [hc], ?_⟩
 rw [hn c hc]
 rcases d c with ⟨_, r⟩ | ⟨r, t⟩
 · exact r
 rw [r, ← t, n c hc]
theorem Sat.put {b : Nat} {o o' : Obj} {Γ : List HP} {w w' : World} (s : Sat (Blk b o :: Γ) w) (hb : w'.heap[b]? = some o') (hn : ∀ c, c ≠ b → w'.heap[c]? = w.heap[c]?) (eo : w'.os = w.os := by rfl) (eu : w'.output = w.output := by rfl) :
 Sat (Blk b o' :: Γ) w' := sep_put s (by show (w'.heap[b]?).map Res.obj = _; rw [hb]; rfl) fun c hc => by
 cases c with
 | zero => show some (Res.rest w'.os w'.output) = some (Res.rest w.os w.output); rw [eo, eu]
 | succ c => show (w'.heap[c]?).map Res.obj = (w.heap[c]?).map Res.obj; rw [hn c (fun e => hc (by rw [e]))]
theorem Sat.push {Γ : List HP} {w w' : World} {o : Obj} (s : Sat Γ w) (e : w'.heap = w.heap.push o) (eo : w'.os = w.os := by rfl) (eu : w'.output = w.output := by rfl) : Sat (Blk w.heap.size o :: Γ) w' := by
 refine ⟨fun c => if c = w.heap.size + 1 then some (.obj o) else none, hpOf w, fun c => ?_, ⟨by simp, fun c hc => by simp [hc]⟩, s⟩
 cases c with
 | zero => left; exact ⟨by simp, by show some (Res.rest w.os w.output) = some (Res.rest w'.os w'.output); rw [eo, eu]⟩
 | succ c =>
  have e1 : hpOf w' (c + 1) = (w'.heap[c]?).map Res.obj := rfl
  have e2 : hpOf w (c + 1) = (w.heap[c]?).map Res.obj := rfl
  rw [e1, e2, e, Array.getElem?_push]
  by_cases hc : c = w.heap.size
  · right; subst hc; simp
  left; simp [hc]
def Ex {α : Type} (A : α → HP) : HP := fun h => ∃ x, A x h
theorem sep_ex {α : Type} {A : α → HP} {Γ : List HP} {h : Hp} (s : sep (Ex A :: Γ) h) : ∃ x, sep (A x :: Γ) h := by
 obtain ⟨h1, h2, d, ⟨x, p⟩, q⟩ := s
 exact ⟨x, h1, h2, d, p, q⟩
theorem ent_ex {α : Type} {A : α → HP} (x : α) (Γ : List HP) : Ent (A x :: Γ) (Ex A :: Γ) := fun h ⟨h1, h2, d, p, q⟩ => ⟨h1, h2, d, ⟨x, p⟩, q⟩
end Go.Px

namespace Go.Px
abbrev Env := Nat → Value
def upd (ρ : Env) (d : Nat) (v : Value) : Env := fun t => bif Nat.beq t d then v else ρ t
def updO (ρ : Env) : Option Tmp → Value → Env
 | none, _ => ρ
 | some d, v => upd ρ d v
def actOf (n : Nat) (ρ : Env) (ds : List Deferred) : Act := { tmps := Array.ofFn (n := n) fun i => ρ i.val, defers := ds }
def evE (n : Nat) (ρ : Env) : Operand → Value
 | .tmp t => bif Nat.blt t n then ρ t else undef
 | .const v => v
 | .global g => .pointer (some ⟨g, 0, none⟩)
 | .func f => .func (.func f) #[] #[]
def ini : List Value → Env
 | [], _ => undef
 | v :: _, 0 => v
 | _ :: l, t + 1 => ini l t
theorem actOf_getD (n : Nat) (ρ : Env) (ds : List Deferred) (t : Nat) : (actOf n ρ ds).tmps.getD t undef = bif Nat.blt t n then ρ t else undef := by
 unfold actOf
 rw [Array.getD_eq_getD_getElem?]
 by_cases h : t < n
 · have hb : Nat.blt t n = true := by simpa [Nat.blt_eq] using h
   rw [hb]
   simp [h]
 have hb : Nat.blt t n = false := by
  cases hx : Nat.blt t n with
  | false => rfl
  | true => exact absurd (by simpa [Nat.blt_eq] using hx) h
 rw [hb]
 simp [h]
theorem actOf_eval (n : Nat) (ρ : Env) (ds : List Deferred) : (actOf n ρ ds).eval = evE n ρ := by
 funext x
 cases x with
 | tmp t => exact actOf_getD n ρ ds t
 | _ => rfl
theorem actOf_put (n : Nat) (ρ : Env) (ds : List Deferred) (d : Option Tmp) (v : Value) : (actOf n ρ ds).put d v = actOf n (updO ρ d v) ds := by
 cases d with
 | none => rfl
 | some d =>
  simp only [Act.put, actOf, updO]
  congr 1
  apply Array.ext
  · simp
  intro i h1 h2
  simp only [Array.size_setIfInBounds, Array.size_ofFn] at h1
  rw [Array.getElem_setIfInBounds (by simpa using h1)]
  simp only [Array.getElem_ofFn, upd]
  by_cases e : d = i
  · subst e
    simp
  have hb : Nat.beq i d = false := by
   cases hx : Nat.beq i d with
   | false => rfl
   | true => exact absurd (Nat.eq_of_beq_eq_true hx).symm e
  rw [hb]
  rw [if_neg e]
  simp
abbrev Post := Exit → Env → List Deferred → World → Prop
def lift (n : Nat) (Q : Post) : Exit → Act → World → Prop
 | .panic c, a, w => ∃ ρ, (∀ t, t < 7 → a.tmps.getD t undef = evE n ρ (.tmp t)) ∧ Q (.panic c) ρ a.defers w
 | e, a, w => ∃ ρ ds, a = actOf n ρ ds ∧ Q e ρ ds w
def WC (P : Program) (n : Nat) (c : Code) (Q : Post) (ρ : Env) (ds : List Deferred) (Γ : List HP) : Prop :=
 ∀ w, Sat Γ w → c.wp P (lift n Q) (actOf n ρ ds) w
def WL (P : Program) (n : Nat) (ops : Array Oper) (l : List Oper) (Q : Post) (ρ : Env) (ds : List Deferred) (Γ : List HP) : Prop :=
 ∀ w, Sat Γ w → wpList P ops (lift n Q) l (actOf n ρ ds) w
def At (e : Exit) (Q : Post) (ρ : Env) (ds : List Deferred) (Γ : List HP) : Prop := ∀ w, Sat Γ w → Q e ρ ds w
def thenQ (P : Program) (n : Nat) (y : Code) (Q : Post) : Post
 | .normal, ρ, ds, w => y.wp P (lift n Q) (actOf n ρ ds) w
 | e, ρ, ds, w => Q e ρ ds w
def blockQ (id : Nat) (Q : Post) : Post
 | .exit i, ρ, ds, w => if i = id then Q .normal ρ ds w else Q (.exit i) ρ ds w
 | e, ρ, ds, w => Q e ρ ds w
def loopQ (I : Env → List Deferred → World → Prop) (Q : Post) : Post
 | .normal, ρ, ds, w => I ρ ds w
 | e, ρ, ds, w => Q e ρ ds w
def scopeQ (l : Nat) (J : Env → List Deferred → World → Prop) (Q : Post) : Post
 | .goto l', ρ, ds, w => l' = l ∧ J ρ ds w
 | e, ρ, ds, w => Q e ρ ds w
def bodyQ (P : Program) (fn : Func) (R : Ending → World → Prop) : Post
 | .normal, ρ, ds, w => ds = [] ∧ ∃ v, (results fn (actOf fn.ntmps ρ ds).tmps).run P w = .ok v w ∧ R (.returned v) w
 | .ret, ρ, ds, w => ds = [] ∧ ∃ v, (results fn (actOf fn.ntmps ρ ds).tmps).run P w = .ok v w ∧ R (.returned v) w
 | .panic chain, ρ, ds, w => ds = [] ∧ R (.panicked chain) w
 | .outgrown, _, _, w => R .outgrown w
 | _, _, _, _ => False
section
variable {P : Program} {n : Nat} {Q : Post} {ρ : Env} {ds : List Deferred} {Γ Δ : List HP}
theorem WC.ent {c : Code} (e : Ent Γ Δ) (h : WC P n c Q ρ ds Δ) : WC P n c Q ρ ds Γ := fun w s => h w (s.mono e)
theorem WL.ent {ops : Array Oper} {l : List Oper} (e : Ent Γ Δ) (h : WL P n ops l Q ρ ds Δ) : WL P n ops l Q ρ ds Γ := fun w s => h w (s.mono e)
theorem At.ent {x : Exit} (e : Ent Γ Δ) (h : At x Q ρ ds Δ) : At x Q ρ ds Γ := fun w s => h w (s.mono e)
theorem WC.ex {α : Type} {A : α → HP} {c : Code} (h : ∀ x, WC P n c Q ρ ds (A x :: Γ)) : WC P n c Q ρ ds (Ex A :: Γ) := fun w s => by
 obtain ⟨x, s⟩ := sep_ex s; exact h x w s
theorem WL.ex {α : Type} {A : α → HP} {ops : Array Oper} {l : List Oper} (h : ∀ x, WL P n ops l Q ρ ds (A x :: Γ)) : WL P n ops l Q ρ ds (Ex A :: Γ) := fun w s => by
 obtain ⟨x, s⟩ := sep_ex s; exact h x w s
theorem WC.pure {p : Prop} {c : Code} (h : p → WC P n c Q ρ ds Γ) : WC P n c Q ρ ds (Pr p :: Γ) := fun w s => h (sep_pure s) w (sep_drop s)
theorem WL.pure {p : Prop} {ops : Array Oper} {l : List Oper} (h : p → WL P n ops l Q ρ ds Γ) : WL P n ops l Q ρ ds (Pr p :: Γ) := fun w s => h (sep_pure s) w (sep_drop s)
theorem WL.know {p : Prop} {ops : Array Oper} {l : List Oper} (k : ∀ h, sep Γ h → p) (h : p → WL P n ops l Q ρ ds Γ) : WL P n ops l Q ρ ds Γ := fun w s => h (k _ s) w s
theorem WC.know {p : Prop} {c : Code} (k : ∀ h, sep Γ h → p) (h : p → WC P n c Q ρ ds Γ) : WC P n c Q ρ ds Γ := fun w s => h (k _ s) w s
theorem exit_lift_then {y : Code} {e : Exit} {a : Act} {w : World} (h : lift n (thenQ P n y Q) e a w) : Exit.then (y.wp P (lift n Q)) (lift n Q) e a w := by
 cases e with
 | panic c => exact h
 | normal => obtain ⟨ρ, ds, rfl, h⟩ := h; exact h
 | _ => exact h
theorem WC_seq {x y : Code} (h : WC P n x (thenQ P n y Q) ρ ds Γ) : WC P n (.seq x y) Q ρ ds Γ := fun w s =>
 wp_seq (wp_mono (h w s) fun _ _ _ q => exit_lift_then q)
theorem WC_skip (h : At .normal Q ρ ds Γ) : WC P n .skip Q ρ ds Γ := fun w s => wp_skip ⟨ρ, ds, rfl, h w s⟩
theorem WC_label {l : Nat} (h : At .normal Q ρ ds Γ) : WC P n (.label l) Q ρ ds Γ := fun w s => wp_label ⟨ρ, ds, rfl, h w s⟩
theorem WC_exit {id : Nat} (h : At (.exit id) Q ρ ds Γ) : WC P n (.exit id) Q ρ ds Γ := fun w s => wp_exit ⟨ρ, ds, rfl, h w s⟩
theorem WC_goto {l : Nat} (h : At (.goto l) Q ρ ds Γ) : WC P n (.goto l) Q ρ ds Γ := fun w s => wp_goto ⟨ρ, ds, rfl, h w s⟩
theorem WC_ret (h : At .ret Q ρ ds Γ) : WC P n .ret Q ρ ds Γ := fun w s => wp_ret ⟨ρ, ds, rfl, h w s⟩
theorem WC_true {c : Operand} {x y : Code} (hc : evE n ρ c = .bool true) (h : WC P n x Q ρ ds Γ) : WC P n (.cond c x y) Q ρ ds Γ := fun w s =>
 wp_cond_true (by rw [actOf_eval]; exact hc) (h w s)
theorem WC_false {c : Operand} {x y : Code} (hc : evE n ρ c = .bool false) (h : WC P n y Q ρ ds Γ) : WC P n (.cond c x y) Q ρ ds Γ := fun w s =>
 wp_cond_false (by rw [actOf_eval]; exact hc) (h w s)
theorem exit_lift_block {id : Nat} {e : Exit} {a : Act} {w : World} (h : lift n (blockQ id Q) e a w) : Exit.inBlock id (lift n Q) e a w := by
 cases e with
 | exit i =>
  obtain ⟨ρ, ds, rfl, h⟩ := h
  simp only [blockQ] at h
  simp only [Exit.inBlock]
  split <;> rename_i hi
  · rw [if_pos hi] at h; exact ⟨ρ, ds, rfl, h⟩
  rw [if_neg hi] at h; exact ⟨ρ, ds, rfl, h⟩
 | _ => exact h
theorem WC_block {id : Nat} {c : Code} (h : WC P n c (blockQ id Q) ρ ds Γ) : WC P n (.block id c) Q ρ ds Γ := fun w s =>
 wp_block (wp_mono (h w s) fun _ _ _ q => exit_lift_block q)
theorem wp_loop_ghost {c : Code} {Q : Exit → Act → World → Prop} {a : Act} {w : World} {α : Type} (I : α → Act → World → Prop) (μ : α → Nat) (x0 : α) (h0 : I x0 a w)
 (round : ∀ x a w, I x a w → c.wp P (Exit.then (fun a' w' => ∃ y, I y a' w' ∧ μ y < μ x) Q) a w) : (Code.loop c).wp P Q a w := by
 intro b k cs
 have key : ∀ n x a w, μ x = n → I x a w →
  ∃ e a' w', Q e a' w' ∧ Arrives P (lone (b.at a (.code c :: .inLoop c :: k)) cs w) b k cs e a' w' := by
  intro n
  induction n using Nat.strongRecOn with
  | _ n ih =>
   intro x a w hn hI
   obtain ⟨e, a₁, w₁, hq, harr⟩ := round x a w hI b (.inLoop c :: k) cs
   cases e with
   | normal =>
    obtain ⟨y, hI₁, hlt⟩ := hq
    obtain ⟨e₂, a₂, w₂, hq₂, harr₂⟩ := ih (μ y) (hn ▸ hlt) y a₁ w₁ rfl hI₁
    exact ⟨e₂, a₂, w₂, hq₂, .of_steps (Steps.trans harr (.one step_inLoop)) harr₂⟩
   | exit id => exact ⟨_, a₁, w₁, hq, .pass (x := .inLoop c) rfl (fun _ _ => .inl (by simp)) harr⟩
   | goto l => exact ⟨_, a₁, w₁, hq, .pass (x := .inLoop c) rfl (fun _ _ => .inl (by simp)) harr⟩
   | ret => exact ⟨_, a₁, w₁, hq, .pass (x := .inLoop c) rfl (fun _ _ => .inl (by simp)) harr⟩
   | panic ch => exact ⟨_, a₁, w₁, hq, .pass (x := .inLoop c) rfl (fun _ _ => .inl (by simp)) harr⟩
   | outgrown => exact ⟨_, a₁, w₁, hq, .pass (x := .inLoop c) rfl (fun _ _ => .inl (by simp)) harr⟩
 obtain ⟨e, a', w', hq, harr⟩ := key _ x0 a w rfl h0
 exact ⟨e, a', w', hq, .of_steps (.one step_loop) harr⟩
def Again {α : Type} (ds : List Deferred) (E : α → Env → Prop) (H : α → List HP) (μ : α → Nat) (N : Nat) : Env → List Deferred → World → Prop :=
 fun ρ₁ ds₁ w => ds₁ = ds ∧ ∃ y, E y ρ₁ ∧ Sat (H y) w ∧ μ y < N
theorem WC_loop {c : Code} {α : Type} (E : α → Env → Prop) (H : α → List HP) (μ : α → Nat) (x0 : α) (h0 : E x0 ρ) (hΓ : Ent Γ (H x0))
 (round : ∀ x ρ', E x ρ' → WC P n c (loopQ (Again ds E H μ (μ x)) Q) ρ' ds (H x)) :
 WC P n (.loop c) Q ρ ds Γ := fun w s => by
 refine wp_loop_ghost (fun x a w => ∃ ρ', a = actOf n ρ' ds ∧ E x ρ' ∧ Sat (H x) w) μ x0 ⟨ρ, rfl, h0, s.mono hΓ⟩ ?_
 rintro x a w ⟨ρ', rfl, hE, hS⟩
 refine wp_mono (round x ρ' hE w hS) ?_
 intro e a w q
 cases e with
 | normal =>
  obtain ⟨ρ₁, ds₁, rfl, rfl, y, hy, hs, hl⟩ := q
  exact ⟨y, ⟨ρ₁, rfl, hy, hs⟩, hl⟩
 | _ => exact q
theorem At_again {α : Type} {E : α → Env → Prop} {H : α → List HP} {μ : α → Nat} {N : Nat} (y : α) (he : E y ρ) (hΓ : Ent Γ (H y)) (hm : μ y < N) :
 At .normal (loopQ (Again ds E H μ N) Q) ρ ds Γ := fun w s => ⟨rfl, y, he, s.mono hΓ, hm⟩
theorem WC_scope_jumps {c rest : Code} {α : Type} (l : Nat) (E : α → Env → Prop) (H : α → List HP) (μ : α → Nat) (hf : findLabel c l = some rest)
 (first : WC P n c (scopeQ l (fun ρ₁ ds₁ w => ds₁ = ds ∧ ∃ y, E y ρ₁ ∧ Sat (H y) w) Q) ρ ds Γ)
 (pass : ∀ x ρ', E x ρ' → WC P n rest (scopeQ l (Again ds E H μ (μ x)) Q) ρ' ds (H x)) : WC P n (.scope c) Q ρ ds Γ := fun w s => by
 have conv : ∀ (J : Env → List Deferred → World → Prop) (J' : Act → World → Prop), (∀ ρ ds w, J ρ ds w → J' (actOf n ρ ds) w) →
  ∀ e a w, lift n (scopeQ l J Q) e a w → Exit.jump l J' (lift n Q) e a w := by
  intro J J' hJ e a w q
  cases e with
  | goto l' => obtain ⟨ρ₁, ds₁, rfl, q⟩ := q; exact ⟨q.1, hJ _ _ _ q.2⟩
  | _ => exact q
 intro b k cs
 have hg : gotoIn l (.inScope c :: k) = some (.code rest :: .inScope c :: k) := by simp [gotoIn, hf]
 have key : ∀ N x ρ' w, μ x = N → E x ρ' → Sat (H x) w → ∃ e a' w', lift n Q e a' w' ∧ Arrives P (lone (b.at (actOf n ρ' ds) (.code rest :: .inScope c :: k)) cs w) b k cs e a' w' := by
  intro N
  induction N using Nat.strongRecOn with
  | _ N ih =>
   intro x ρ' w hn hE hS
   obtain ⟨e, a₁, w₁, hq, harr⟩ := (wp_mono (pass x ρ' hE w hS) (conv _ (fun a w => ∃ y ρ₁, a = actOf n ρ₁ ds ∧ E y ρ₁ ∧ Sat (H y) w ∧ μ y < μ x)
    (by rintro ρ₁ ds₁ w₁ ⟨rfl, y, a, b, c⟩; exact ⟨y, ρ₁, rfl, a, b, c⟩))) b (.inScope c :: k) cs
   cases e with
   | normal => exact ⟨.normal, a₁, w₁, hq, Steps.trans harr (.one step_inScope)⟩
   | exit id => exact ⟨.exit id, a₁, w₁, hq, fun k' hk => harr k' (by simp [exitTo, hk])⟩
   | goto l' =>
    obtain ⟨rfl, y, ρ₁, rfl, hy, hs, hlt⟩ := hq
    obtain ⟨e₂, a₂, w₂, hq₂, harr₂⟩ := ih _ (hn ▸ hlt) y ρ₁ w₁ rfl hy hs
    exact ⟨e₂, a₂, w₂, hq₂, .of_steps (harr _ hg) harr₂⟩
   | ret => exact ⟨.ret, a₁, w₁, hq, harr⟩
   | panic ch => exact ⟨.panic ch, a₁, w₁, hq, harr⟩
   | outgrown => exact ⟨.outgrown, a₁, w₁, hq, harr⟩
 obtain ⟨e, a₁, w₁, hq, harr⟩ := (wp_mono (first w s) (conv _ (fun a w => ∃ y ρ₁, a = actOf n ρ₁ ds ∧ E y ρ₁ ∧ Sat (H y) w)
  (by rintro ρ₁ ds₁ w₁ ⟨rfl, y, a, b⟩; exact ⟨y, ρ₁, rfl, a, b⟩))) b (.inScope c :: k) cs
 cases e with
 | normal => exact ⟨.normal, a₁, w₁, hq, .head step_scope (Steps.trans harr (.one step_inScope))⟩
 | exit id => exact ⟨.exit id, a₁, w₁, hq, fun k' hk => .head step_scope (harr k' (by simp [exitTo, hk]))⟩
 | goto l' =>
  obtain ⟨rfl, y, ρ₁, rfl, hy, hs⟩ := hq
  obtain ⟨e₂, a₂, w₂, hq₂, harr₂⟩ := key _ y ρ₁ w₁ rfl hy hs
  exact ⟨e₂, a₂, w₂, hq₂, .of_steps (.head step_scope (harr _ hg)) harr₂⟩
 | ret => exact ⟨.ret, a₁, w₁, hq, .of_steps (b := b) (k := k) (cs := cs) (e := .ret) (.one step_scope) harr⟩
 | panic ch => exact ⟨.panic ch, a₁, w₁, hq, .of_steps (b := b) (k := k) (cs := cs) (e := .panic ch) (.one step_scope) harr⟩
 | outgrown => exact ⟨.outgrown, a₁, w₁, hq, .of_steps (b := b) (k := k) (cs := cs) (e := .outgrown) (.one step_scope) harr⟩
theorem At_jump_first {α : Type} {l : Nat} {E : α → Env → Prop} {H : α → List HP} (y : α) (he : E y ρ) (hΓ : Ent Γ (H y)) :
 At (.goto l) (scopeQ l (fun ρ₁ ds₁ w => ds₁ = ds ∧ ∃ y, E y ρ₁ ∧ Sat (H y) w) Q) ρ ds Γ := fun w s => ⟨rfl, rfl, y, he, s.mono hΓ⟩
theorem At_jump_again {α : Type} {l : Nat} {E : α → Env → Prop} {H : α → List HP} {μ : α → Nat} {N : Nat} (y : α) (he : E y ρ) (hΓ : Ent Γ (H y)) (hm : μ y < N) :
 At (.goto l) (scopeQ l (Again ds E H μ N) Q) ρ ds Γ := fun w s => ⟨rfl, rfl, y, he, s.mono hΓ, hm⟩
theorem At_then {y : Code} (h : WC P n y Q ρ ds Γ) : At .normal (thenQ P n y Q) ρ ds Γ := h
theorem At_thenX {i : Nat} {y : Code} (h : At (.exit i) Q ρ ds Γ) : At (.exit i) (thenQ P n y Q) ρ ds Γ := h
theorem At_thenG {i : Nat} {y : Code} (h : At (.goto i) Q ρ ds Γ) : At (.goto i) (thenQ P n y Q) ρ ds Γ := h
theorem At_thenR {y : Code} (h : At .ret Q ρ ds Γ) : At .ret (thenQ P n y Q) ρ ds Γ := h
theorem At_blockN {i : Nat} (h : At .normal Q ρ ds Γ) : At .normal (blockQ i Q) ρ ds Γ := h
theorem At_blockX {i : Nat} (h : At .normal Q ρ ds Γ) : At (.exit i) (blockQ i Q) ρ ds Γ := fun w s => by
 show (if i = i then _ else _); rw [if_pos rfl]; exact h w s
theorem At_blockY {i j : Nat} (e : Nat.beq j i = false) (h : At (.exit j) Q ρ ds Γ) : At (.exit j) (blockQ i Q) ρ ds Γ := fun w s => by
 show (if j = i then _ else _)
 rw [if_neg (fun x => by subst x; simp at e)]; exact h w s
theorem At_blockG {i l : Nat} (h : At (.goto l) Q ρ ds Γ) : At (.goto l) (blockQ i Q) ρ ds Γ := h
theorem At_blockR {i : Nat} (h : At .ret Q ρ ds Γ) : At .ret (blockQ i Q) ρ ds Γ := h
theorem At_loopX {i : Nat} {I : Env → List Deferred → World → Prop} (h : At (.exit i) Q ρ ds Γ) : At (.exit i) (loopQ I Q) ρ ds Γ := h
theorem At_loopG {i : Nat} {I : Env → List Deferred → World → Prop} (h : At (.goto i) Q ρ ds Γ) : At (.goto i) (loopQ I Q) ρ ds Γ := h
theorem At_loopR {I : Env → List Deferred → World → Prop} (h : At .ret Q ρ ds Γ) : At .ret (loopQ I Q) ρ ds Γ := h
theorem At_scopeN {l : Nat} {J : Env → List Deferred → World → Prop} (h : At .normal Q ρ ds Γ) : At .normal (scopeQ l J Q) ρ ds Γ := h
theorem At_scopeR {l : Nat} {J : Env → List Deferred → World → Prop} (h : At .ret Q ρ ds Γ) : At .ret (scopeQ l J Q) ρ ds Γ := h
theorem WC_region {id : Nat} {l : List Oper} (h : WL P n l.toArray l Q ρ ds Γ) : WC P n (.region id l.toArray false) Q ρ ds Γ := fun w s => wp_region_lit (h w s)
theorem WL_nil {ops : Array Oper} (h : At .normal Q ρ ds Γ) : WL P n ops [] Q ρ ds Γ := fun w s => ⟨ρ, ds, rfl, h w s⟩
theorem calls_of_WC {fn : Func} {f : FuncId} {c : Code} {args : List Value} {R : Ending → World → Prop} (hf : P.funcs[f]? = some fn) (hb : fn.body = some c)
 (hn : Nat.ble args.length fn.ntmps = true) (h : WC P fn.ntmps c (bodyQ P fn R) (ini args) [] Γ) : ∀ w, Sat Γ w → Calls P f args.toArray w R := fun w s => by
 have hn' : args.length ≤ fn.ntmps := Nat.le_of_ble_eq_true hn
 have hini : ∀ (l : List Value) (i : Nat), ini l i = l.getD i undef := by
  intro l
  induction l with
  | nil => intro i; simp [ini]
  | cons v l ih => intro i; cases i with
   | zero => rfl
   | succ i => simpa [ini] using ih i
 refine calls_of_wp hf hb ?_
 have ha : ({ tmps := args.toArray ++ Array.replicate (fn.ntmps - args.toArray.size) undef, defers := [] } : Act) = actOf fn.ntmps (ini args) [] := by
  unfold actOf
  congr 1
  apply Array.ext
  · simp; omega
  intro i h1 h2
  rw [Array.getElem_ofFn, hini]
  by_cases hi : i < args.length
  · rw [Array.getElem_append_left (by simpa using hi)]
    simp [hi]
  rw [Array.getElem_append_right (by simpa using hi)]
  simp [hi]
 rw [ha]
 refine wp_mono (h w s) ?_
 intro e a w q
 cases e with
 | panic c => obtain ⟨ρ, _, q⟩ := q; exact q
 | outgrown => obtain ⟨ρ, ds, -, q⟩ := q; exact q
 | normal => obtain ⟨ρ, ds, rfl, q⟩ := q; exact q
 | ret => obtain ⟨ρ, ds, rfl, q⟩ := q; exact q
 | exit i => obtain ⟨ρ, ds, rfl, q⟩ := q; exact q
 | goto i => obtain ⟨ρ, ds, rfl, q⟩ := q; exact q
def bodyQD (P : Program) (fn : Func) (R : Ending → World → Prop) : Post
 | .normal, ρ, ds, w => Leaves P fn (actOf fn.ntmps ρ ds).tmps R ds .returning w
 | .ret, ρ, ds, w => Leaves P fn (actOf fn.ntmps ρ ds).tmps R ds .returning w
 | .panic chain, ρ, ds, w => ∀ tmps : Array Value, (∀ t, t < 7 → tmps.getD t undef = evE fn.ntmps ρ (.tmp t)) → Leaves P fn tmps R ds (.panicking chain) w
 | .outgrown, _, _, w => R .outgrown w
 | _, _, _, _ => False
theorem ini_act {fn : Func} {args : List Value} (hn : Nat.ble args.length fn.ntmps = true) : ({ tmps := args.toArray ++ Array.replicate (fn.ntmps - args.toArray.size) undef, defers := [] } : Act) = actOf fn.ntmps (ini args) [] := by
 have hn' : args.length ≤ fn.ntmps := Nat.le_of_ble_eq_true hn
 have hini : ∀ (l : List Value) (i : Nat), ini l i = l.getD i undef := by
  intro l
  induction l with
  | nil => intro i; simp [ini]
  | cons v l ih => intro i; cases i with
   | zero => rfl
   | succ i => simpa [ini] using ih i
 unfold actOf
 congr 1
 apply Array.ext
 · simp; omega
 intro i h1 h2
 rw [Array.getElem_ofFn, hini]
 by_cases hi : i < args.length
 · rw [Array.getElem_append_left (by simpa using hi)]
   simp [hi]
 rw [Array.getElem_append_right (by simpa using hi)]
 simp [hi]
theorem calls_of_WCD {fn : Func} {f : FuncId} {c : Code} {args : List Value} {R : Ending → World → Prop} (hf : P.funcs[f]? = some fn) (hb : fn.body = some c)
 (hn : Nat.ble args.length fn.ntmps = true) (h : WC P fn.ntmps c (bodyQD P fn R) (ini args) [] Γ) : ∀ w, Sat Γ w → Calls P f args.toArray w R := fun w s => by
 refine calls_of_wp_defers hf hb ?_
 rw [ini_act hn]
 refine wp_mono (h w s) ?_
 intro e a w q
 cases e with
 | panic c => obtain ⟨ρ, hk, q⟩ := q; exact q _ hk
 | outgrown => obtain ⟨ρ, ds, -, q⟩ := q; exact q
 | normal => obtain ⟨ρ, ds, rfl, q⟩ := q; exact q
 | ret => obtain ⟨ρ, ds, rfl, q⟩ := q; exact q
 | exit i => obtain ⟨ρ, ds, rfl, q⟩ := q; exact q
 | goto i => obtain ⟨ρ, ds, rfl, q⟩ := q; exact q
theorem At_ret {fn : Func} {R : Ending → World → Prop} {v : Value} (hn : n = fn.ntmps) (hr : ∀ w, Sat Γ w → (results fn (actOf n ρ []).tmps).run P w = .ok v w) (hR : ∀ w, Sat Γ w → R (.returned v) w) :
 At .ret (bodyQ P fn R) ρ [] Γ := fun w s => by subst hn; exact ⟨rfl, v, hr w s, hR w s⟩
theorem At_end {fn : Func} {R : Ending → World → Prop} {v : Value} (hn : n = fn.ntmps) (hr : ∀ w, Sat Γ w → (results fn (actOf n ρ []).tmps).run P w = .ok v w) (hR : ∀ w, Sat Γ w → R (.returned v) w) :
 At .normal (bodyQ P fn R) ρ [] Γ := fun w s => by subst hn; exact ⟨rfl, v, hr w s, hR w s⟩
theorem At_panic {fn : Func} {R : Ending → World → Prop} {c : List PanicEntry} (hR : ∀ w, Sat Γ w → R (.panicked c) w) : At (.panic c) (bodyQ P fn R) ρ [] Γ := fun w s => ⟨rfl, hR w s⟩
theorem At_ret1 {fn : Func} {R : Ending → World → Prop} {t : Tmp} (hres : fn.results = #[.tmp t]) (hR : ∀ w, Sat Γ w → R (.returned (evE fn.ntmps ρ (.tmp t))) w) :
 At .ret (bodyQ P fn R) ρ [] Γ := At_ret rfl (fun w _ => by rw [results_tmp hres, actOf_getD]; rfl) hR
theorem At_ret2 {fn : Func} {R : Ending → World → Prop} {t u : Tmp} (hres : fn.results = #[.tmp t, .tmp u]) (hR : ∀ w, Sat Γ w → R (.returned (.tuple #[evE fn.ntmps ρ (.tmp t), evE fn.ntmps ρ (.tmp u)])) w) :
 At .ret (bodyQ P fn R) ρ [] Γ := At_ret rfl (fun w _ => by rw [results_tmp2 hres, actOf_getD, actOf_getD]; rfl) hR
theorem At_ret0 {fn : Func} {R : Ending → World → Prop} (hres : fn.results = #[]) (hR : ∀ w, Sat Γ w → R (.returned (.tuple #[])) w) :
 At .ret (bodyQ P fn R) ρ [] Γ := At_ret rfl (fun w _ => results_none hres _ P w) hR
theorem At_end0 {fn : Func} {R : Ending → World → Prop} (hres : fn.results = #[]) (hR : ∀ w, Sat Γ w → R (.returned (.tuple #[])) w) :
 At .normal (bodyQ P fn R) ρ [] Γ := At_end rfl (fun w _ => results_none hres _ P w) hR
end
attribute [irreducible] WL WC At
end Go.Px

namespace Go.Px
attribute [local semireducible] WL WC At
def isOne : Value → Bool
 | .agg _ | .tuple _ => false
 | _ => true
theorem cells_one {v : Value} (h : isOne v = true) : v.cells = #[v] := by cases v <;> first | rfl | cases h
theorem oneCell_of {v : Value} (h : isOne v = true) : v.oneCell' = true := by cases v <;> first | rfl | cases h
def Cl (b : Nat) (T : TypeId) (l : List Value) : HP := Blk b (.cells l.toArray T (0, 0))
inductive Sel : List HP → HP → List HP → Prop
 | zero {A : HP} {Γ : List HP} : Sel (A :: Γ) A Γ
 | succ {A B : HP} {Γ Γ' : List HP} : Sel Γ A Γ' → Sel (B :: Γ) A (B :: Γ')
theorem Sel.ent {Γ Γ' : List HP} {A : HP} (s : Sel Γ A Γ') : Ent Γ (A :: Γ') := by
 induction s with
 | zero => exact Ent.refl _
 | succ _ ih => exact fun h x => sep_swap (sep_tail ih x)
inductive Sels : List HP → List HP → List HP → Prop
 | nil {Γ : List HP} : Sels Γ [] Γ
 | cons {A : HP} {Γ Γ' Γ'' Δ : List HP} : Sel Γ A Γ' → Sels Γ' Δ Γ'' → Sels Γ (A :: Δ) Γ''
theorem Sels.ent {Γ Γ' Δ : List HP} (s : Sels Γ Δ Γ') : Ent Γ (Δ ++ Γ') := by
 induction s with
 | nil => exact Ent.refl _
 | cons h _ ih => exact h.ent.trans fun h x => sep_tail ih x
inductive Put : List Value → Nat → List Value → List Value → Prop
 | done {l : List Value} : Put l 0 [] l
 | put {a v : Value} {l l' vs : List Value} : Put l 0 vs l' → Put (a :: l) 0 (v :: vs) (v :: l')
 | skip {a : Value} {l l' vs : List Value} {n : Nat} : Put l n vs l' → Put (a :: l) (n + 1) vs (a :: l')
theorem Put.eq {l l' vs : List Value} {n : Nat} (h : Put l n vs l') : l.take n ++ vs ++ l.drop (n + vs.length) = l' ∧ n + vs.length ≤ l.length := by
 induction h with
 | done => simp
 | @put a v l l' vs _ ih =>
  refine ⟨?_, by have := ih.2; simp only [List.length_cons]; omega⟩
  have := ih.1
  simp only [List.take_zero, List.nil_append, Nat.zero_add, List.length_cons, List.drop_succ_cons, List.cons_append] at this ⊢
  rw [this]
 | @skip a l l' vs n _ ih =>
  refine ⟨?_, by have := ih.2; simp only [List.length_cons]; omega⟩
  have := ih.1
  rw [show n + 1 + vs.length = n + vs.length + 1 from by omega]
  simp only [List.take_succ_cons, List.cons_append, List.drop_succ_cons]
  rw [this]
section
variable {P : Program} {w : World}
theorem cell_of_block {b o : Nat} {c : Array Value} {T : TypeId} {fz : Nat × Nat} {v : Value} (h : w.heap[b]? = some (.cells c T fz)) (hc : c[o]? = some v) :
 w.cell? ⟨b, o, none⟩ = some v := by simp [World.cell?, h, hc]
theorem run_load1 {t : TypeId} {a : Addr} {v : Value} (hA : ∀ w, (isAgg t).run P w = .ok false w) (hc : w.cell? a = some v) :
 (Instr.loadAt t (.pointer (some a))).run P w = .ok v w := by
 simp [Instr.loadAt, Instr.sureAddr, loadVar, hA, hc]
theorem run_loadN {t : TypeId} {b o n : Nat} {c : Array Value} {T : TypeId} {fz : Nat × Nat} {vs : List Value} (hA : ∀ w, (isAgg t).run P w = .ok true w) (hS : ∀ w, (sizeOf t).run P w = .ok n w)
 (h : w.heap[b]? = some (.cells c T fz)) (hc : (c.toList.drop o).take n = vs) (hn : vs.length = n) :
 (Instr.loadAt t (.pointer (some ⟨b, o, none⟩))).run P w = .ok (.agg vs.toArray) w := by
 have hl := run_loadCells_list (P := P) w ⟨b, o, none⟩ vs fun j v hj => by
  rw [Addr.add_lit]
  refine cell_of_block h ?_
  subst hc
  rw [List.getElem?_take] at hj
  split at hj
  · rw [List.getElem?_drop] at hj; simpa using hj
  cases hj
 rw [hn] at hl
 simp [Instr.loadAt, Instr.sureAddr, loadVar, hA, hS, hl]
theorem setRow_get {b : Nat} {c c' : Array Value} {T : TypeId} {fz : Nat × Nat} (h : w.heap[b]? = some (.cells c T fz)) : (w.setRow b c').heap[b]? = some (.cells c' T fz) := setRow_heap w b c c' T fz h
theorem setRow_ne {b k : Nat} {c' : Array Value} (h : k ≠ b) : (w.setRow b c').heap[k]? = w.heap[k]? := setRow_other w b k c' h
theorem run_storeN {t : TypeId} {b o n : Nat} {c : Array Value} {T : TypeId} {v : Value} (hS : ∀ w, (sizeOf t).run P w = .ok n w) (hv : v.cells.size = n)
 (h1 : ∀ x ∈ v.cells.toList, x.oneCell' = true) (h : w.heap[b]? = some (.cells c T (0, 0))) (hc : o + n ≤ c.size) :
 (Instr.storeAt t (.pointer (some ⟨b, o, none⟩)) v).run P w = .ok () (w.setRow b (c.toList.take o ++ v.cells.toList ++ c.toList.drop (o + n)).toArray) := by
 have hst := run_storeCells_at P b o T v.cells.toList 0 c w h (by simpa [hv] using hc) h1
 simp only [Nat.add_zero, Array.length_toList, hv] at hst
 simp [Instr.storeAt, Instr.sureAddr, storeVar, hS, hv, hst]
end
def Rd (P : Program) (n : Nat) (ρ : Env) (o : Oper) (Γ : List HP) (v : Value) : Prop := ∀ w, Sat Γ w → (execOp (evE n ρ) o).run P w = .ok (.value v) w
def Ef (P : Program) (n : Nat) (ρ : Env) (o : Oper) (Γ : List HP) {α : Type} (v : α → Value) (Γ' : α → List HP) : Prop :=
 ∀ w, Sat Γ w → ∃ a w', (execOp (evE n ρ) o).run P w = .ok (.value (v a)) w' ∧ Sat (Γ' a) w'
def Ef0 (P : Program) (n : Nat) (ρ : Env) (o : Oper) (Γ Γ' : List HP) : Prop :=
 ∀ w, Sat Γ w → ∃ w', (execOp (evE n ρ) o).run P w = .ok .skip w' ∧ Sat Γ' w'
section
variable {P : Program} {n : Nat} {Q : Post} {ρ : Env} {ds : List Deferred} {Γ Γ' : List HP} {ops : Array Oper} {rest : List Oper} {d : Option Tmp} {t : Tmp} {op : Op} {ty : TypeId} {pos : String} {af : Array Edge} {gd : Option (Nat × Bool)}
theorem WL_plain {o : Oper} (hg : o.guard = none) (h : ∀ w, Sat Γ w → o.wp P (actOf n ρ ds) w (wpList P ops (lift n Q) rest) (lift n Q)) : WL P n ops (o :: rest) Q ρ ds Γ := fun w s =>
 wpList_plain hg fun K hK => Oper.wp_mono (fun a w k => hK a w k) (h w s)
theorem WL_rd {v : Value} (h : Rd P n ρ ⟨some t, op, ty, pos, af, none⟩ Γ v) (k : WL P n ops rest Q (upd ρ t v) ds Γ) :
 WL P n ops (⟨some t, op, ty, pos, af, none⟩ :: rest) Q ρ ds Γ := WL_plain rfl fun w s => by
 unfold Oper.wp
 rw [actOf_eval, h w s]
 show wpList P ops (lift n Q) rest _ w
 rw [actOf_put]
 exact k w s
theorem WL_ef {α : Type} {v : α → Value} {Γ' : α → List HP} (h : Ef P n ρ ⟨some t, op, ty, pos, af, none⟩ Γ v Γ') (k : ∀ a, WL P n ops rest Q (upd ρ t (v a)) ds (Γ' a)) :
 WL P n ops (⟨some t, op, ty, pos, af, none⟩ :: rest) Q ρ ds Γ := WL_plain rfl fun w s => by
 obtain ⟨a, w', hr, hs⟩ := h w s
 unfold Oper.wp
 rw [actOf_eval, hr]
 show wpList P ops (lift n Q) rest _ w'
 rw [actOf_put]
 exact k a w' hs
theorem WL_ef0 (h : Ef0 P n ρ ⟨none, op, ty, pos, af, none⟩ Γ Γ') (k : WL P n ops rest Q ρ ds Γ') :
 WL P n ops (⟨none, op, ty, pos, af, none⟩ :: rest) Q ρ ds Γ := WL_plain rfl fun w s => by
 obtain ⟨w', hr, hs⟩ := h w s
 unfold Oper.wp
 rw [actOf_eval, hr]
 show wpList P ops (lift n Q) rest _ w'
 exact k w' hs
def grd (n : Nat) (ops : Array Oper) (ρ : Env) (j : Nat) : Option Bool :=
 match (ops[j]?).bind (·.dst) with
 | some d => match (bif Nat.blt d n then some (ρ d) else none) with
  | some (.bool b) => some b
  | _ => none
 | none => none
theorem yielded_actOf (j : Nat) : yielded ops (actOf n ρ ds).tmps j = grd n ops ρ j := by
 unfold yielded grd
 cases h : (ops[j]?).bind (·.dst) with
 | none => rfl
 | some d =>
  simp only [Option.bind_some]
  have : (actOf n ρ ds).tmps[d]? = (bif Nat.blt d n then some (ρ d) else none) := by
   unfold actOf
   by_cases hd : d < n
   · have hb : Nat.blt d n = true := by simpa [Nat.blt_eq] using hd
     rw [hb]; simp [hd]
   have hb : Nat.blt d n = false := by
    cases hx : Nat.blt d n with
    | false => rfl
    | true => exact absurd (by simpa [Nat.blt_eq] using hx) hd
   rw [hb]; simp [hd]
  rw [this]
  cases (bif Nat.blt d n then some (ρ d) else none) with
  | none => rfl
  | some v => cases v <;> rfl
theorem grd_of {j : Nat} {b' : Bool} {d : Tmp} (hd : (ops[j]?).bind (·.dst) = some d) (hv : evE n ρ (.tmp d) = .bool b') : grd n ops ρ j = some b' := by
 have hv : (bif Nat.blt d n then ρ d else undef) = .bool b' := hv
 unfold grd
 rw [hd]
 cases h : Nat.blt d n with
 | false => rw [h] at hv; cases hv
 | true => rw [h, cond_true] at hv; simp only [h, cond_true, hv]
theorem WL_pass {j : Nat} {b b' : Bool} {e : Tmp} (hde : (ops[j]?).bind (·.dst) = some e) (hv : evE n ρ (.tmp e) = .bool b') (hne : (b' == b) = false) (k : WL P n ops rest Q (upd ρ t undef) ds Γ) :
 WL P n ops (⟨some t, op, ty, pos, af, some (j, b)⟩ :: rest) Q ρ ds Γ := fun w s => by
 have hg := grd_of hde hv
 unfold wpList
 rw [if_neg (by simp only [Region.wanted, yielded_actOf, hg]; cases b <;> cases b' <;> first | exact absurd hne (by decide) | decide), actOf_put]
 exact k w s
theorem WL_take {j : Nat} {b b' : Bool} {e : Tmp} (hde : (ops[j]?).bind (·.dst) = some e) (hv : evE n ρ (.tmp e) = .bool b') (he : (b' == b) = true) (k : WL P n ops (⟨d, op, ty, pos, af, none⟩ :: rest) Q ρ ds Γ) :
 WL P n ops (⟨d, op, ty, pos, af, some (j, b)⟩ :: rest) Q ρ ds Γ := fun w s => by
 have hg := grd_of hde hv
 have := k w s
 unfold wpList at *
 rw [if_pos (by simp [Region.wanted])] at this
 rw [if_pos (by simp only [Region.wanted, yielded_actOf, hg]; cases b <;> cases b' <;> first | exact absurd he (by decide) | decide)]
 exact this
theorem eqg_int {B : BinOp} {T : TypeId} {x y : Operand} {k : IntKind} {a : Int} {v : Value} : eqGuard B T x y (.int k a) v = pure () := by cases B <;> rfl
theorem eqg_str {B : BinOp} {T : TypeId} {x y : Operand} {a : ByteArray} {v : Value} : eqGuard B T x y (.string a) v = pure () := by cases B <;> rfl
theorem rd_move {x : Operand} {v : Value} (h : evE n ρ x = v) : Rd P n ρ ⟨d, .move x, ty, pos, af, gd⟩ Γ v := fun w _ => by subst h; rfl
theorem rd_assign {x : Operand} {v : Value} (h : evE n ρ x = v) : Rd P n ρ ⟨d, .assign x, ty, pos, af, gd⟩ Γ v := fun w _ => by subst h; rfl
theorem rd_pick {c x y : Operand} {b : Bool} (h : evE n ρ c = .bool b) : Rd P n ρ ⟨d, .pick c x y, ty, pos, af, gd⟩ Γ (bif b then evE n ρ x else evE n ρ y) := fun w _ => by
 simp only [execOp, h, asBool]
 cases b <;> rfl
theorem rd_nilCheck {x : Operand} {a : Addr} (h : evE n ρ x = .pointer (some a)) : Rd P n ρ ⟨d, .nilCheck x, ty, pos, af, gd⟩ Γ (.pointer (some a)) := fun w _ => by
 simp only [execOp, h]; rfl
theorem rd_fieldAddr {x : Operand} {s f off b o : Nat} (hF : ∀ b o w, (Instr.fieldAt s (.pointer (some ⟨b, o, none⟩)) f).run P w = .ok (.pointer (some ⟨b, o + off, none⟩)) w) (h : evE n ρ x = .pointer (some ⟨b, o, none⟩)) :
 Rd P n ρ ⟨d, .fieldAddr s x f, ty, pos, af, gd⟩ Γ (.pointer (some ⟨b, o + off, none⟩)) := fun w _ => by
 simp only [execOp, h, Sem.run_bind, hF, Result.andThen_ok, Sem.run_pure]
theorem rd_field {x : Operand} {s f : Nat} {u v : Value} (h : evE n ρ x = u) (hF : ∀ w, (Instr.field s u f).run P w = .ok v w) : Rd P n ρ ⟨d, .field s x f, ty, pos, af, gd⟩ Γ v := fun w _ => by
 simp only [execOp, h, Sem.run_bind, hF, Result.andThen_ok, Sem.run_pure]
theorem parts_map {parts : List (Nat × Operand)} {vs : List (Nat × Value)} (h : parts.map (fun p => (p.1, evE n ρ p.2)) = vs) : (parts.toArray.map fun (i, x) => (i, evE n ρ x)) = vs.toArray := by
 subst h; simp
theorem args_map {xs : List Operand} {args : List Value} (h : xs.map (evE n ρ) = args) : xs.toArray.map (evE n ρ) = args.toArray := by subst h; simp
theorem rd_build {T : TypeId} {parts : List (Nat × Operand)} {vs : List (Nat × Value)} {v : Value} (h : parts.map (fun p => (p.1, evE n ρ p.2)) = vs) (hB : ∀ w, (Instr.build T vs.toArray).run P w = .ok v w) :
 Rd P n ρ ⟨d, .build T parts.toArray, ty, pos, af, gd⟩ Γ v := fun w _ => by
 simp only [execOp, parts_map h, Sem.run_bind, hB, Result.andThen_ok, Sem.run_pure]
theorem rd_extract {x : Operand} {vs : Array Value} {i : Nat} {v : Value} (h : evE n ρ x = .tuple vs) (hi : vs[i]? = some v) : Rd P n ρ ⟨d, .extract x i, ty, pos, af, gd⟩ Γ v := fun w _ => by
 simp only [execOp, h, Instr.extract, hi]; rfl
theorem rd_makeFunc {f : Fn} {xs ys : List Operand} {us vs : List Value} (hx : xs.map (evE n ρ) = us) (hy : ys.map (evE n ρ) = vs) : Rd P n ρ ⟨d, .makeFunc f xs.toArray ys.toArray, ty, pos, af, gd⟩ Γ (.func f us.toArray vs.toArray) := fun w _ => by
 simp only [execOp, args_map hx, args_map hy]; rfl
theorem rd_makeInterface {x : Operand} {T : TypeId} {v : Value} {D : TypeDesc} (h : evE n ρ x = v) (hU : ∀ w, (underlying T).run P w = .ok D w) (hD : ∀ m, D ≠ .interface m) :
 Rd P n ρ ⟨d, .makeInterface T x, ty, pos, af, gd⟩ Γ (.iface T v) := fun w _ => by
 simp only [execOp, h, Sem.run_bind, Instr.makeInterface, hU, Result.andThen_ok]
 cases D <;> first | rfl | exact absurd rfl (hD _)
theorem rd_not {x : Operand} {T : TypeId} {b : Bool} (h : evE n ρ x = .bool b) : Rd P n ρ ⟨d, .unOp .not T x, ty, pos, af, gd⟩ Γ (.bool (!b)) := fun w _ => by
 simp only [execOp, h]; rfl
theorem rd_binOp {x y : Operand} {B : BinOp} {T yT : TypeId} {u v r : Value} (hx : evE n ρ x = u) (hy : evE n ρ y = v) (hG : eqGuard B T x y u v = pure ()) (hB : binOp B T u v = pure r) :
 Rd P n ρ ⟨d, .binOp B T x y yT, ty, pos, af, gd⟩ Γ r := fun w _ => by
 simp only [execOp, hx, hy, hG, hB]; rfl
theorem rd_load1 {x : Operand} {T : TypeId} {b o : Nat} {c : Array Value} {E : TypeId} {fz : Nat × Nat} {v : Value} (hA : ∀ w, (isAgg T).run P w = .ok false w) (hx : evE n ρ x = .pointer (some ⟨b, o, none⟩))
 (hs : Sel Γ (Blk b (.cells c E fz)) Γ') (hv : c[o]? = some v) : Rd P n ρ ⟨d, .load T x, ty, pos, af, gd⟩ Γ v := fun w s => by
 have := run_load1 (P := P) hA (cell_of_block (Sat.blk (s.mono hs.ent)) hv)
 simp only [execOp, hx, Sem.run_bind, this, Result.andThen_ok, Sem.run_pure]
theorem rd_load1' {x : Operand} {T : TypeId} {b o : Nat} {l : List Value} {E : TypeId} {v : Value} (hA : ∀ w, (isAgg T).run P w = .ok false w) (hx : evE n ρ x = .pointer (some ⟨b, o, none⟩))
 (hs : Sel Γ (Cl b E l) Γ') (hv : l[o]? = some v) : Rd P n ρ ⟨d, .load T x, ty, pos, af, gd⟩ Γ v := rd_load1 hA hx hs (by simpa using hv)
theorem rd_loadN {x : Operand} {T : TypeId} {b o m : Nat} {l : List Value} {E : TypeId} {vs : List Value} (hA : ∀ w, (isAgg T).run P w = .ok true w) (hS : ∀ w, (sizeOf T).run P w = .ok m w)
 (hx : evE n ρ x = .pointer (some ⟨b, o, none⟩)) (hs : Sel Γ (Cl b E l) Γ') (hv : (l.drop o).take m = vs) (hn : vs.length = m) : Rd P n ρ ⟨d, .load T x, ty, pos, af, gd⟩ Γ (.agg vs.toArray) := fun w s => by
 have := run_loadN (P := P) hA hS (Sat.blk (s.mono hs.ent)) (by simpa using hv) hn
 simp only [execOp, hx, Sem.run_bind, this, Result.andThen_ok, Sem.run_pure]
theorem rd_lenS {x : Operand} {T : TypeId} {E : TypeId} {a : Option Addr} {k c : Nat} (hU : ∀ w, (underlying T).run P w = .ok (.slice E) w) (hx : evE n ρ x = .slice a k c) :
 Rd P n ρ ⟨d, .call ⟨.builtin .len, #[x], #[T]⟩, ty, pos, af, gd⟩ Γ (.int .i64 k) := fun w _ => by
 simp [execOp, resolve, invoke, builtin, Builtin.len_, hU, hx, goInt]
theorem rd_lenStr {x : Operand} {T : TypeId} {s : ByteArray} (hU : ∀ w, (underlying T).run P w = .ok .string w) (hx : evE n ρ x = .string s) :
 Rd P n ρ ⟨d, .call ⟨.builtin .len, #[x], #[T]⟩, ty, pos, af, gd⟩ Γ (.int .i64 s.size) := fun w _ => by
 simp [execOp, resolve, invoke, builtin, Builtin.len_, hU, hx, goInt]
theorem rd_min {x y : Operand} {ts : Array TypeId} {k : IntKind} {a b : Int} (hx : evE n ρ x = .int k a) (hy : evE n ρ y = .int k b) :
 Rd P n ρ ⟨d, .call ⟨.builtin .min, #[x, y], ts⟩, ty, pos, af, gd⟩ Γ (.int k (if b < a then b else a)) := fun w _ => by
 simp [execOp, resolve, invoke, builtin, Builtin.min_, Builtin.min2, hx, hy]
theorem rd_indexAddr {x y : Operand} {T E : TypeId} {b o len cap sz : Nat} {i : Int} {k : IntKind} (hU : ∀ w, (underlying T).run P w = .ok (.slice E) w) (hS : ∀ w, (sizeOf E).run P w = .ok sz w)
 (hx : evE n ρ x = .slice (some ⟨b, o, none⟩) len cap) (hy : evE n ρ y = .int k i) (h0 : 0 ≤ i) (h1 : i < len) :
 Rd P n ρ ⟨d, .indexAddr T x y, ty, pos, af, gd⟩ Γ (.pointer (some ⟨b, o + i.toNat * sz, none⟩)) := fun w _ => by
 simp [execOp, Instr.indexAt, hU, hx, hy, hS, asIntOf, h0, h1, Addr.add_lit]
theorem Sat.pushCl {w : World} {T : TypeId} {l : List Value} (s : Sat Γ w) : Sat (Cl w.heap.size T l :: Γ) { w with heap := w.heap.push (.cells l.toArray T (0, 0)) } :=
 Sat.push (o := .cells l.toArray T (0, 0)) s rfl
theorem ef_box {x : Operand} {T : TypeId} {v : Value} {l : List Value} (hx : evE n ρ x = v) (hl : v.cells = l.toArray) :
 Ef P n ρ ⟨d, .box T x, ty, pos, af, gd⟩ Γ (fun b : Nat => .pointer (some ⟨b, 0, none⟩)) (fun b => Cl b T l :: Γ) := fun w s => by
 refine ⟨w.heap.size, { w with heap := w.heap.push (.cells l.toArray T (0, 0)) }, ?_, Sat.pushCl s⟩
 simp only [execOp, hx, Instr.box, newVar, newRow, newObj, hl, Sem.run_bind]; rfl
theorem ef_alloc {T : TypeId} {z : Value} {l : List Value} (hZ : ∀ w, (zeroValue T).run P w = .ok z w) (hl : z.cells = l.toArray) :
 Ef P n ρ ⟨d, .alloc T, ty, pos, af, gd⟩ Γ (fun b : Nat => .pointer (some ⟨b, 0, none⟩)) (fun b => Cl b T l :: Γ) := fun w s => by
 refine ⟨w.heap.size, { w with heap := w.heap.push (.cells l.toArray T (0, 0)) }, ?_, Sat.pushCl s⟩
 simp only [execOp, Instr.alloc, newVar, newRow, newObj, hZ, hl, Sem.run_bind, Result.andThen_ok]; rfl
theorem ef_store {x y : Operand} {T : TypeId} {b o m : Nat} {l l' vs : List Value} {E : TypeId} {v : Value} (hS : ∀ w, (sizeOf T).run P w = .ok m w) (hx : evE n ρ x = .pointer (some ⟨b, o, none⟩)) (hy : evE n ρ y = v)
 (hv : v.cells = vs.toArray) (hm : vs.length = m) (h1 : vs.all isOne = true) (hs : Sel Γ (Cl b E l) Γ') (hp : Put l o vs l') :
 Ef0 P n ρ ⟨d, .store T x y, ty, pos, af, gd⟩ Γ (Cl b E l' :: Γ') := fun w s => by
 obtain ⟨rfl, hle⟩ := hp.eq
 have s' := s.mono hs.ent
 have hb := Sat.blk s'
 have hr := run_storeN (P := P) (w := w) (t := T) (b := b) (o := o) (n := m) (c := l.toArray) (T := E) (v := v) hS (by rw [hv]; simpa using hm)
  (by rw [hv]; intro x hx; exact oneCell_of (by simpa using List.all_eq_true.1 h1 x (by simpa using hx))) hb (by simp; omega)
 refine ⟨_, by simp only [execOp, hx, hy, Sem.run_bind, hr, Result.andThen_ok]; rfl, ?_⟩
 refine Sat.put s' (o' := .cells (l.take o ++ vs ++ l.drop (o + vs.length)).toArray E (0, 0)) ?_ fun c hc => setRow_ne hc
 rw [setRow_get hb]
 simp only [hv, hm]
theorem ef_buildSlice {T E : TypeId} {len : Nat} {parts : List (Nat × Operand)} {vs : List (Nat × Value)} {l : List Value} (h : parts.map (fun p => (p.1, evE n ρ p.2)) = vs)
 (hB : ∀ w, (Instr.buildSlice T len vs.toArray).run P w = .ok (.slice (some ⟨w.heap.size, 0, none⟩) len len) { w with heap := w.heap.push (.cells l.toArray E (0, 0)) }) :
 Ef P n ρ ⟨d, .buildSlice T len parts.toArray, ty, pos, af, gd⟩ Γ (fun b : Nat => .slice (some ⟨b, 0, none⟩) len len) (fun b => Cl b E l :: Γ) := fun w s => by
 refine ⟨w.heap.size, _, ?_, Sat.pushCl s⟩
 simp only [execOp, parts_map h, Sem.run_bind, hB, Result.andThen_ok, Sem.run_pure]
theorem WL_call {f : FuncId} {xs : Array Operand} {ats : Array TypeId} {args : Array Value} {R : Ending → World → Prop} (hC : ∀ args w, (callFunc f args).run P w = .ok (.enter f args) w) (hx : xs.map (evE n ρ) = args)
 (hc : ∀ w, Sat Γ w → Calls P f args w R) (hk : ∀ v w, R (.returned v) w → wpList P ops (lift n Q) rest (actOf n (updO ρ d v) ds) w)
 (hp : ∀ c w, R (.panicked c) w → Q (.panic c) ρ ds w) (ho : ∀ w, ¬ R .outgrown w) :
 WL P n ops (⟨d, .call ⟨.value (.func f), xs, ats⟩, ty, pos, af, none⟩ :: rest) Q ρ ds Γ := WL_plain rfl fun w s => by
 unfold Oper.wp
 rw [actOf_eval]
 have hr : (execOp (evE n ρ) ⟨d, .call ⟨.value (.func f), xs, ats⟩, ty, pos, af, none⟩).run P w = .ok (.enter f args) w := by
  simp [execOp, resolve, evE, Deferred.ofValue, invoke, hC, hx]
 rw [hr]
 show Calls P f args w _
 refine (hc w s).mono ?_
 intro e w' hR
 cases e with
 | returned v =>
  show wpList P ops (lift n Q) rest _ w'
  rw [actOf_put]; exact hk v w' hR
 | panicked c => exact ⟨ρ, fun t _ => actOf_getD n ρ ds t, hp c w' hR⟩
 | outgrown => exact absurd hR (ho w')
theorem WL_callV {f : FuncId} {g : Operand} {fs cs : Array Value} {xs : Array Operand} {ats : Array TypeId} {args : Array Value} {R : Ending → World → Prop} (hC : ∀ args w, (callFunc f args).run P w = .ok (.enter f args) w)
 (hg : evE n ρ g = .func (.func f) fs cs) (hx : fs ++ xs.map (evE n ρ) ++ cs = args)
 (hc : ∀ w, Sat Γ w → Calls P f args w R) (hk : ∀ v w, R (.returned v) w → wpList P ops (lift n Q) rest (actOf n (updO ρ d v) ds) w)
 (hp : ∀ c w, R (.panicked c) w → Q (.panic c) ρ ds w) (ho : ∀ w, ¬ R .outgrown w) :
 WL P n ops (⟨d, .call ⟨.value g, xs, ats⟩, ty, pos, af, none⟩ :: rest) Q ρ ds Γ := WL_plain rfl fun w s => by
 unfold Oper.wp
 rw [actOf_eval]
 have hr : (execOp (evE n ρ) ⟨d, .call ⟨.value g, xs, ats⟩, ty, pos, af, none⟩).run P w = .ok (.enter f args) w := by
  simp [execOp, resolve, hg, Deferred.ofValue, invoke, hC, ← hx]
 rw [hr]
 show Calls P f args w _
 refine (hc w s).mono ?_
 intro e w' hR
 cases e with
 | returned v =>
  show wpList P ops (lift n Q) rest _ w'
  rw [actOf_put]; exact hk v w' hR
 | panicked c => exact ⟨ρ, fun t _ => actOf_getD n ρ ds t, hp c w' hR⟩
 | outgrown => exact absurd hR (ho w')
theorem WL_defer {g : Operand} {f : FuncId} {fs cs : Array Value} {xs : Array Operand} {ats : Array TypeId} {args : Array Value} (hg : evE n ρ g = .func (.func f) fs cs) (hx : fs ++ xs.map (evE n ρ) = args)
 (k : WL P n ops rest Q ρ (⟨.fn (.func f) cs, args⟩ :: ds) Γ) : WL P n ops (⟨none, .defer ⟨.value g, xs, ats⟩, ty, pos, af, none⟩ :: rest) Q ρ ds Γ := WL_plain rfl fun w s => by
 unfold Oper.wp
 rw [actOf_eval]
 have hr : (execOp (evE n ρ) ⟨none, .defer ⟨.value g, xs, ats⟩, ty, pos, af, none⟩).run P w = .ok (.defer ⟨.fn (.func f) cs, args⟩) w := by
  simp [execOp, resolve, hg, Deferred.ofValue, ← hx]
 rw [hr]
 exact k w s
theorem WL_panic {x : Operand} {T : TypeId} {v : Value} (hx : evE n ρ x = .iface T v) (h : At (.panic [⟨.iface T v, false, false⟩]) Q ρ ds Γ) :
 WL P n ops (⟨d, .panic x, ty, pos, af, none⟩ :: rest) Q ρ ds Γ := WL_plain rfl fun w s => by
 unfold Oper.wp
 rw [actOf_eval]
 have hr : (execOp (evE n ρ) ⟨d, .panic x, ty, pos, af, none⟩).run P w = .halt (.panic (.iface T v)) w := by
  simp [execOp, hx, Instr.panic, goPanic]
 rw [hr]
 exact ⟨ρ, fun t _ => actOf_getD n ρ ds t, h w s⟩
end
end Go.Px

namespace Go.Px
attribute [local semireducible] WL WC At
section
variable {P : Program} {ops : Array Oper} {Q : Exit → Act → World → Prop} {md : Region.Mode} {S : World → Prop} {late : List Nat}
def unl (late : List Nat) (L : Array Bool) : Prop := ∀ d ∈ late, L.getD d true = false
def wpAnyG (P : Program) (md : Region.Mode) (ops : Array Oper) (Q : Exit → Act → World → Prop) (late : List Nat) (S : World → Prop) : Nat → Array Bool → Act → World → Prop
 | 0, L, a, w => Region.ready md ops L = [] ∧ Q .normal a w
 | fuel + 1, L, a, w =>
  (Region.ready md ops L = [] → Q .normal a w) ∧
  ∀ i ∈ Region.ready md ops L, wpOp P ops Q i (fun a' w' => (unl late (L.setIfInBounds i true) → S w') ∧ wpAnyG P md ops Q late S fuel (L.setIfInBounds i true) a' w') a w
theorem wpAny_of_G : ∀ (fuel : Nat) (L : Array Bool) (a : Act) (w : World), wpAnyG P md ops Q late S fuel L a w → wpAny P md ops Q fuel L a w
 | 0, _, _, _, h => h
 | fuel + 1, _, _, _, h => ⟨h.1, fun i hi => wpOp_mono (fun a' w' h' => wpAny_of_G fuel _ a' w' h'.2) (h.2 i hi)⟩
theorem unl_set {L : Array Bool} {i : Nat} (h : unl late L) (hi : i ∉ late) : unl late (L.setIfInBounds i true) := fun d hd => by
 have hne : i ≠ d := fun e => hi (by subst e; exact hd)
 rw [getD_set_ne true hne]; exact h d hd
theorem wpAnyG_first {i : Nat} {oi : Oper} {v : Value} (hi : ops[i]? = some oi) (hsel : ∀ (j : Nat) (o : Oper) cs b, ops[j]? = some o → o.op ≠ .select cs b)
 (hQ : ∀ c a w, Q (.panic c) (a.put oi.dst v) w → Q (.panic c) a w) (hil : i ∉ late)
 (hdep : ∀ d ∈ late, ∀ o, ops[d]? = some o → ∃ e ∈ o.after, Region.binds md e = true ∧ e.on = i) :
 ∀ (fuel : Nat) (L : Array Bool) (a : Act) (w : World), unl late L →
  (∀ j oj, ops[j]? = some oj → j ≠ i → L.getD j true = false → (∀ e ∈ oj.after, Region.binds md e = true → e.on ≠ i) → oi.apart ops oj = true) →
  i ∈ Region.ready md ops L → YieldsIf P ops S oi v a → S w →
  wpAnyG P md ops Q late S fuel (L.setIfInBounds i true) (a.put oi.dst v) w → wpAnyG P md ops Q late S (fuel + 1) L a w := by
 intro fuel
 induction fuel with
 | zero =>
  intro L a w hu _ hr hy hS H
  refine ⟨fun h => (by rw [h] at hr; cases hr), fun j hj => ?_⟩
  by_cases hji : j = i
  · subst hji; exact hy.wpOp hi hS ⟨fun _ => hS, H⟩
  have := ready_mono hj hji
  rw [H.1] at this
  cases this
 | succ fuel ih =>
  intro L a w hu hfree hr hy hS H
  refine ⟨fun h => (by rw [h] at hr; cases hr), fun j hj => ?_⟩
  by_cases hji : j = i
  · subst hji; exact hy.wpOp hi hS ⟨fun _ => hS, H⟩
  have h1 := H.2 j (ready_mono hj hji)
  obtain ⟨hjun, oj, hoj, hall⟩ := mem_ready.1 hj
  have hnot : ∀ e ∈ oj.after, Region.binds md e = true → e.on ≠ i := fun e he hb heq => by
   have h1 := hall e he hb
   have h0 := (mem_ready.1 hr).1
   rw [heq] at h1
   rcases Nat.lt_or_ge i L.size with h' | h'
   · simp [h'] at h0 h1; rw [h0] at h1; cases h1
   simp [Array.getElem?_eq_none h'] at h1
  have hjl : j ∉ late := fun hjl => by
   obtain ⟨e, he, hb, hon⟩ := hdep j hjl oj hoj
   exact hnot e he hb hon
  have h2 := wpOp_putIf hoj (hfree j oj hoj hji hjun hnot) (fun cs b => hsel i oi cs b hi) (fun cs b => hsel j oj cs b hoj) hQ hy h1
  have hfree' : ∀ k ok, ops[k]? = some ok → k ≠ i → (L.setIfInBounds j true).getD k true = false →
   (∀ e ∈ ok.after, Region.binds md e = true → e.on ≠ i) → oi.apart ops ok = true := fun k ok hk hki hun hno => by
   refine hfree k ok hk hki ?_ hno
   by_cases hjk : j = k
   · subst hjk; exact hjun
   rw [getD_set_ne true hjk] at hun; exact hun
  refine wpOp_mono (fun a' w' h3 => ?_) h2
  have hS' : S w' := h3.2.1 (unl_set (unl_set hu hil) hjl)
  refine ⟨fun _ => hS', ih (L.setIfInBounds j true) a' w' (unl_set hu hjl) hfree' (ready_mono hr (Ne.symm hji)) h3.1 hS' ?_⟩
  rw [Array.setIfInBounds_comm _ _ hji]
  exact h3.2.2
theorem wpAnyG_pure {i : Nat} {oi : Oper} {v : Value} (hi : ops[i]? = some oi) (hsel : ∀ (j : Nat) (o : Oper) cs b, ops[j]? = some o → o.op ≠ .select cs b)
 (hQ : ∀ c a w, Q (.panic c) (a.put oi.dst v) w → Q (.panic c) a w) (hil : i ∉ late) :
 ∀ (fuel : Nat) (L : Array Bool) (a : Act) (w : World),
  (∀ j oj, ops[j]? = some oj → j ≠ i → L.getD j true = false → (∀ e ∈ oj.after, Region.binds md e = true → e.on ≠ i) → oi.apart ops oj = true) →
  i ∈ Region.ready md ops L → YieldsIf P ops (fun _ => True) oi v a → (unl late L → S w) →
  wpAnyG P md ops Q late S fuel (L.setIfInBounds i true) (a.put oi.dst v) w → wpAnyG P md ops Q late S (fuel + 1) L a w := by
 have back : ∀ {L : Array Bool}, unl late (L.setIfInBounds i true) → unl late L := fun {L} h d hd => by
  have hne : i ≠ d := fun e => hil (by subst e; exact hd)
  have := h d hd
  rw [getD_set_ne true hne] at this; exact this
 intro fuel
 induction fuel with
 | zero =>
  intro L a w hfree hr hy hS H
  refine ⟨fun h => (by rw [h] at hr; cases hr), fun j hj => ?_⟩
  by_cases hji : j = i
  · subst hji; exact hy.wpOp hi trivial ⟨fun h => hS (back h), H⟩
  have := ready_mono hj hji
  rw [H.1] at this
  cases this
 | succ fuel ih =>
  intro L a w hfree hr hy hS H
  refine ⟨fun h => (by rw [h] at hr; cases hr), fun j hj => ?_⟩
  by_cases hji : j = i
  · subst hji; exact hy.wpOp hi trivial ⟨fun h => hS (back h), H⟩
  have h1 := H.2 j (ready_mono hj hji)
  obtain ⟨hjun, oj, hoj, hall⟩ := mem_ready.1 hj
  have hnot : ∀ e ∈ oj.after, Region.binds md e = true → e.on ≠ i := fun e he hb heq => by
   have h1 := hall e he hb
   have h0 := (mem_ready.1 hr).1
   rw [heq] at h1
   rcases Nat.lt_or_ge i L.size with h' | h'
   · simp [h'] at h0 h1; rw [h0] at h1; cases h1
   simp [Array.getElem?_eq_none h'] at h1
  have h1 := wpOp_mono (fun a' w' h' => And.intro trivial h') h1
  have h2 := wpOp_putIf hoj (hfree j oj hoj hji hjun hnot) (fun cs b => hsel i oi cs b hi) (fun cs b => hsel j oj cs b hoj) hQ hy (wpOp_mono (fun a' w' h' => h'.2) h1)
  have hfree' : ∀ k ok, ops[k]? = some ok → k ≠ i → (L.setIfInBounds j true).getD k true = false →
   (∀ e ∈ ok.after, Region.binds md e = true → e.on ≠ i) → oi.apart ops ok = true := fun k ok hk hki hun hno => by
   refine hfree k ok hk hki ?_ hno
   by_cases hjk : j = k
   · subst hjk; exact hjun
   rw [getD_set_ne true hjk] at hun; exact hun
  refine wpOp_mono (fun a' w' h3 => ?_) h2
  have hS' : unl late (L.setIfInBounds j true) → S w' := fun hu => h3.2.1 (by rw [← Array.setIfInBounds_comm _ _ hji]; exact unl_set hu hil)
  refine ⟨hS', ih (L.setIfInBounds j true) a' w' hfree' (ready_mono hr (Ne.symm hji)) h3.1 hS' ?_⟩
  rw [Array.setIfInBounds_comm _ _ hji]
  exact h3.2.2
end
def dst7 (ops : Array Oper) (i : Nat) : Bool := match ops[i]? with
 | none => true
 | some o => match o.dst with
  | none => true
  | some t => Nat.ble 7 t
theorem dst7_spec {ops : Array Oper} {i : Nat} {o : Oper} (ho : ops[i]? = some o) (h : dst7 ops i = true) : ∀ t, o.dst = some t → 7 ≤ t := fun t ht => by
 unfold dst7 at h
 rw [ho] at h
 simp only [ht] at h
 exact Nat.le_of_ble_eq_true h
def takeOk (ops : Array Oper) (late : List Nat) (L : Array Bool) (i : Nat) : Bool :=
 dst7 ops i && Region.noSelect ops && Region.free .any ops L i && (Region.ready .any ops L).contains i && !late.contains i &&
 late.all fun d => !(L.getD d true) && match ops[d]? with
  | none => true
  | some o => o.after.any fun e => Region.binds .any e && e.on == i
section
variable {P : Program} {n : Nat} {Q : Post} {ρ : Env} {ds : List Deferred} {Γ Γ' Γ0 : List HP} {ops : Array Oper} {late : List Nat} {fuel : Nat} {L : Array Bool}
def WD (P : Program) (n : Nat) (ops : Array Oper) (late : List Nat) (Γ0 : List HP) (fuel : Nat) (L : Array Bool) (Q : Post) (ρ : Env) (ds : List Deferred) (Γ : List HP) : Prop :=
 ∀ w, Sat Γ w → wpAnyG P .any ops (lift n Q) late (Sat Γ0) fuel L (actOf n ρ ds) w
theorem WC_draw {id : Nat} {l : List Oper} (late : List Nat) (Γ0 : List HP) (hm : P.follows .mixedOrders = true) (h : WD P n l.toArray late Γ0 l.toArray.size (Array.replicate l.toArray.size false) Q ρ ds Γ) :
 WC P n (.region id l.toArray true) Q ρ ds Γ := fun w s =>
 wp_region_any hm (wpAny_of_G _ _ _ _ (h _ (s.of_heap rfl)))
theorem WD.ent (e : Ent Γ Γ') (h : WD P n ops late Γ0 fuel L Q ρ ds Γ') : WD P n ops late Γ0 fuel L Q ρ ds Γ := fun w s => h w (s.mono e)
theorem WD.ex {α : Type} {A : α → HP} (h : ∀ x, WD P n ops late Γ0 fuel L Q ρ ds (A x :: Γ)) : WD P n ops late Γ0 fuel L Q ρ ds (Ex A :: Γ) := fun w s => by
 obtain ⟨x, s⟩ := sep_ex s; exact h x w s
theorem WD.pure {p : Prop} (h : p → WD P n ops late Γ0 fuel L Q ρ ds Γ) : WD P n ops late Γ0 fuel L Q ρ ds (Pr p :: Γ) := fun w s => h (sep_pure s) w (sep_drop s)
theorem lift_panic {c : List PanicEntry} {a : Act} {dst : Option Tmp} {v : Value} {w : World} (hd : ∀ t, dst = some t → 7 ≤ t) (h : lift n Q (.panic c) (a.put dst v) w) : lift n Q (.panic c) a w := by
 obtain ⟨ρ, hk, h⟩ := h
 cases dst with
 | none => exact ⟨ρ, hk, h⟩
 | some d =>
  refine ⟨ρ, fun t ht => ?_, h⟩
  have h7 := hd d rfl
  rw [← hk t ht]
  show a.tmps.getD t undef = (a.tmps.setIfInBounds d v).getD t undef
  have hne : d ≠ t := fun e => by rw [e] at h7; exact absurd ht (Nat.not_lt.2 h7)
  rw [Array.getD_eq_getD_getElem?, Array.getD_eq_getD_getElem?, Array.getElem?_setIfInBounds_ne hne]
theorem WD_takeY (i : Nat) {o : Oper} {t : Tmp} {v : Value} (ho : ops[i]? = some o) (hd : o.dst = some t) (hok : takeOk ops late L i = true) (hE : Ent Γ Γ0) (hy : YieldsIf P ops (Sat Γ0) o v (actOf n ρ ds))
 (k : WD P n ops late Γ0 fuel (L.setIfInBounds i true) Q (upd ρ t v) ds Γ) : WD P n ops late Γ0 (fuel + 1) L Q ρ ds Γ := fun w s => by
 simp only [takeOk, Bool.and_eq_true] at hok
 obtain ⟨⟨⟨⟨⟨h7, h1⟩, h2⟩, h3⟩, h4⟩, h5⟩ := hok
 rw [List.all_eq_true] at h5
 refine wpAnyG_first ho (Region.noSelect_spec h1) (v := v) (fun c a w h => lift_panic (dst7_spec ho h7) h) (by simpa using h4) ?_ fuel L _ w ?_ (Region.free_spec ho h2) (by simpa using h3) hy (s.mono hE) ?_
 · intro d hd o ho
   have := h5 d hd
   simp only [ho, Bool.and_eq_true, Array.any_eq_true'] at this
   obtain ⟨_, e, he, hb⟩ := this
   exact ⟨e, he, hb.1, by simpa using hb.2⟩
 · intro d hd
   have := h5 d hd
   simp only [Bool.and_eq_true, Bool.not_eq_true'] at this
   exact this.1
 rw [actOf_put, hd]
 exact k w s
theorem WD_take (i : Nat) {o : Oper} {t : Tmp} {v : Value} (ho : ops[i]? = some o) (hd : o.dst = some t) (hok : takeOk ops late L i = true) (hg : o.guard = none) (hE : Ent Γ Γ0) (hr : Rd P n ρ o Γ0 v)
 (k : WD P n ops late Γ0 fuel (L.setIfInBounds i true) Q (upd ρ t v) ds Γ) : WD P n ops late Γ0 (fuel + 1) L Q ρ ds Γ :=
 WD_takeY i ho hd hok hE (.inl ⟨by simp [Region.wanted, hg], fun w' hw' => by rw [actOf_eval]; exact hr w' hw'⟩) k
theorem WD_takeG (i : Nat) {o : Oper} {t : Tmp} {v : Value} {j : Nat} {b b' : Bool} {e : Tmp} (ho : ops[i]? = some o) (hd : o.dst = some t) (hok : takeOk ops late L i = true) (hg : o.guard = some (j, b)) (hde : (ops[j]?).bind (·.dst) = some e) (hv : evE n ρ (.tmp e) = .bool b') (hb : (b' == b) = true)
 (hE : Ent Γ Γ0) (hr : Rd P n ρ o Γ0 v) (k : WD P n ops late Γ0 fuel (L.setIfInBounds i true) Q (upd ρ t v) ds Γ) : WD P n ops late Γ0 (fuel + 1) L Q ρ ds Γ :=
 WD_takeY i ho hd hok hE (.inl ⟨by simp only [Region.wanted, hg, yielded_actOf, grd_of hde hv]; cases b <;> cases b' <;> first | exact absurd hb (by decide) | decide, fun w' hw' => by rw [actOf_eval]; exact hr w' hw'⟩) k
theorem WD_skipG (i : Nat) {o : Oper} {t : Tmp} {j : Nat} {b b' : Bool} {e : Tmp} (ho : ops[i]? = some o) (hd : o.dst = some t) (hok : takeOk ops late L i = true) (hg : o.guard = some (j, b)) (hde : (ops[j]?).bind (·.dst) = some e) (hv : evE n ρ (.tmp e) = .bool b') (hb : (b' == b) = false)
 (hE : Ent Γ Γ0) (k : WD P n ops late Γ0 fuel (L.setIfInBounds i true) Q (upd ρ t undef) ds Γ) : WD P n ops late Γ0 (fuel + 1) L Q ρ ds Γ :=
 WD_takeY i ho hd hok hE (.inr ⟨by simp only [Region.wanted, hg, yielded_actOf, grd_of hde hv]; cases b <;> cases b' <;> first | exact absurd hb (by decide) | decide, rfl⟩) k
def takeOkP (ops : Array Oper) (late : List Nat) (L : Array Bool) (i : Nat) : Bool :=
 dst7 ops i && Region.noSelect ops && Region.free .any ops L i && (Region.ready .any ops L).contains i && !late.contains i
theorem WD_takeP (i : Nat) {o : Oper} {t : Tmp} {v : Value} (ho : ops[i]? = some o) (hd : o.dst = some t) (hok : takeOkP ops late L i = true) (hg : o.guard = none) (hE : unl late L → Ent Γ Γ0) (hr : Rd P n ρ o [] v)
 (k : WD P n ops late Γ0 fuel (L.setIfInBounds i true) Q (upd ρ t v) ds Γ) : WD P n ops late Γ0 (fuel + 1) L Q ρ ds Γ := fun w s => by
 simp only [takeOkP, Bool.and_eq_true] at hok
 obtain ⟨⟨⟨⟨h7, h1⟩, h2⟩, h3⟩, h4⟩ := hok
 refine wpAnyG_pure ho (Region.noSelect_spec h1) (v := v) (fun c a w h => lift_panic (dst7_spec ho h7) h) (by simpa using h4) fuel L _ w (Region.free_spec ho h2) (by simpa using h3) ?_ (fun hu => s.mono (hE hu)) ?_
 · exact .inl ⟨by simp [Region.wanted, hg], fun w' _ => by rw [actOf_eval]; exact hr w' trivial⟩
 rw [actOf_put, hd]
 exact k w s
theorem WD_only (i : Nat) {o : Oper} (hr : Region.ready .any ops L = [i]) (ho : ops[i]? = some o) (hg : o.guard = none)
 (h : ∀ w, Sat Γ w → o.wp P (actOf n ρ ds) w (fun a' w' => (unl late (L.setIfInBounds i true) → Sat Γ0 w') ∧ wpAnyG P .any ops (lift n Q) late (Sat Γ0) fuel (L.setIfInBounds i true) a' w') (lift n Q)) :
 WD P n ops late Γ0 (fuel + 1) L Q ρ ds Γ := fun w s => by
 refine ⟨fun h0 => absurd (hr.symm.trans h0) (by simp), fun j hj => ?_⟩
 rw [hr] at hj
 obtain rfl : j = i := by simpa using hj
 unfold wpOp
 simp only [ho]
 rw [if_pos (by simp [Region.wanted, hg])]
 exact .inl (h w s)
theorem WD_rd (i : Nat) {o : Oper} {t : Tmp} {v : Value} (hr : Region.ready .any ops L = [i]) (ho : ops[i]? = some o) (hd : o.dst = some t) (hg : o.guard = none) (hrd : Rd P n ρ o Γ v)
 (hE : unl late (L.setIfInBounds i true) → Ent Γ Γ0) (k : WD P n ops late Γ0 fuel (L.setIfInBounds i true) Q (upd ρ t v) ds Γ) : WD P n ops late Γ0 (fuel + 1) L Q ρ ds Γ :=
 WD_only i hr ho hg fun w s => by
  unfold Oper.wp
  rw [actOf_eval, hrd w s]
  refine ⟨fun hu => s.mono (hE hu), ?_⟩
  rw [actOf_put, hd]
  exact k w s
theorem WD_ef (i : Nat) {o : Oper} {t : Tmp} {α : Type} {v : α → Value} {Γ' : α → List HP} (hr : Region.ready .any ops L = [i]) (ho : ops[i]? = some o) (hd : o.dst = some t) (hg : o.guard = none) (hef : Ef P n ρ o Γ v Γ')
 (hE : unl late (L.setIfInBounds i true) → ∀ a, Ent (Γ' a) Γ0) (k : ∀ a, WD P n ops late Γ0 fuel (L.setIfInBounds i true) Q (upd ρ t (v a)) ds (Γ' a)) : WD P n ops late Γ0 (fuel + 1) L Q ρ ds Γ :=
 WD_only i hr ho hg fun w s => by
  obtain ⟨a, w', hrun, hs⟩ := hef w s
  unfold Oper.wp
  rw [actOf_eval, hrun]
  refine ⟨fun hu => hs.mono (hE hu a), ?_⟩
  rw [actOf_put, hd]
  exact k a w' hs
theorem WD_ef0 (i : Nat) {o : Oper} (hr : Region.ready .any ops L = [i]) (ho : ops[i]? = some o) (hd : o.dst = none) (hg : o.guard = none) (hef : Ef0 P n ρ o Γ Γ')
 (hE : unl late (L.setIfInBounds i true) → Ent Γ' Γ0) (k : WD P n ops late Γ0 fuel (L.setIfInBounds i true) Q ρ ds Γ') : WD P n ops late Γ0 (fuel + 1) L Q ρ ds Γ :=
 WD_only i hr ho hg fun w s => by
  obtain ⟨w', hrun, hs⟩ := hef w s
  unfold Oper.wp
  rw [actOf_eval, hrun]
  refine ⟨fun hu => hs.mono (hE hu), ?_⟩
  rw [hd]
  exact k w' hs
theorem WD_done (hr : Region.ready .any ops L = []) (h : At .normal Q ρ ds Γ) : ∀ fuel, WD P n ops late Γ0 fuel L Q ρ ds Γ
 | 0 => fun w s => ⟨hr, ρ, ds, rfl, h w s⟩
 | fuel + 1 => fun w s => ⟨fun _ => ⟨ρ, ds, rfl, h w s⟩, by rw [hr]; simp⟩
theorem WD_call (i : Nat) {o : Oper} {f : FuncId} {args : Array Value} {R : Ending → World → Prop} (hr : Region.ready .any ops L = [i]) (ho : ops[i]? = some o) (hg : o.guard = none)
 (hrun : ∀ w, (execOp (evE n ρ) o).run P w = .ok (.enter f args) w) (hc : ∀ w, Sat Γ w → Calls P f args w R)
 (hE : ∀ v w, R (.returned v) w → unl late (L.setIfInBounds i true) → Sat Γ0 w)
 (hk : ∀ v w, R (.returned v) w → wpAnyG P .any ops (lift n Q) late (Sat Γ0) fuel (L.setIfInBounds i true) (actOf n (updO ρ o.dst v) ds) w)
 (hp : ∀ c w, R (.panicked c) w → Q (.panic c) ρ ds w) (hout : ∀ w, ¬ R .outgrown w) : WD P n ops late Γ0 (fuel + 1) L Q ρ ds Γ :=
 WD_only i hr ho hg fun w s => by
  unfold Oper.wp
  rw [actOf_eval, hrun w]
  show Calls P f args w _
  refine (hc w s).mono ?_
  intro e w' hR
  cases e with
  | returned v =>
   refine ⟨fun hu => hE v w' hR hu, ?_⟩
   rw [actOf_put]
   exact hk v w' hR
  | panicked c => exact ⟨ρ, fun t _ => actOf_getD n ρ ds t, hp c w' hR⟩
  | outgrown => exact absurd hR (hout w')
theorem run_call {d : Option Tmp} {ty : TypeId} {pos : String} {af : Array Edge} {gd : Option (Nat × Bool)} {f : FuncId} {xs : Array Operand} {ats : Array TypeId} {args : Array Value}
 (hC : ∀ args w, (callFunc f args).run P w = .ok (.enter f args) w) (hx : xs.map (evE n ρ) = args) (w : World) :
 (execOp (evE n ρ) ⟨d, .call ⟨.value (.func f), xs, ats⟩, ty, pos, af, gd⟩).run P w = .ok (.enter f args) w := by
 simp [execOp, resolve, evE, Deferred.ofValue, invoke, hC, hx]
theorem run_callV {d : Option Tmp} {ty : TypeId} {pos : String} {af : Array Edge} {gd : Option (Nat × Bool)} {f : FuncId} {g : Operand} {fs cs : Array Value} {xs : Array Operand} {ats : Array TypeId} {args : Array Value}
 (hC : ∀ args w, (callFunc f args).run P w = .ok (.enter f args) w) (hg : evE n ρ g = .func (.func f) fs cs) (hx : fs ++ xs.map (evE n ρ) ++ cs = args) (w : World) :
 (execOp (evE n ρ) ⟨d, .call ⟨.value g, xs, ats⟩, ty, pos, af, gd⟩).run P w = .ok (.enter f args) w := by
 simp [execOp, resolve, hg, Deferred.ofValue, invoke, hC, ← hx]
end
attribute [irreducible] WD
end Go.Px

namespace Go.Px
attribute [local semireducible] WL WC At WD
def Arr (T : TypeId) (sz : Nat) (v : Value) (m : Nat) (xs : List Value) : HP := fun h =>
 xs.length = m * sz ∧ ((v = .slice none 0 0 ∧ m = 0) ∨ ∃ b cap sp, v = .slice (some ⟨b, 0, none⟩) m cap ∧ m ≤ cap ∧ cap ≤ maxLen ∧ (xs ++ sp).length = cap * sz ∧ Cl b T (xs ++ sp) h)
abbrev slV (s : Option Addr × Nat × Nat) : Value := .slice s.1 s.2.1 s.2.2
theorem arr_slice {T : TypeId} {sz : Nat} {v : Value} {m : Nat} {xs : List Value} {h : Hp} (p : Arr T sz v m xs h) : ∃ s, v = slV s ∧ s.2.1 = m := by
 obtain ⟨_, ⟨rfl, rfl⟩ | ⟨b, cap, sp, rfl, _⟩⟩ := p
 · exact ⟨(none, 0, 0), rfl, rfl⟩
 exact ⟨(some ⟨b, 0, none⟩, m, cap), rfl, rfl⟩
theorem arr_nil (T : TypeId) (sz : Nat) (Γ : List HP) : Ent Γ (Arr T sz (.slice none 0 0) 0 [] :: Γ) := fun h s =>
 ⟨fun _ => none, h, fun b => .inl ⟨rfl, rfl⟩, ⟨by simp, .inl ⟨rfl, rfl⟩⟩, s⟩
theorem arr_of_cl {T : TypeId} {sz b m : Nat} {xs : List Value} (hm : m ≤ maxLen) (hl : xs.length = m * sz) (Γ : List HP) : Ent (Cl b T xs :: Γ) (Arr T sz (.slice (some ⟨b, 0, none⟩) m m) m xs :: Γ) :=
 Ent.head fun h p => ⟨hl, .inr ⟨b, m, [], rfl, Nat.le_refl _, hm, by simpa using hl, by simpa using p⟩⟩
section
variable {P : Program} {n : Nat} {Q : Post} {ρ : Env} {ds : List Deferred} {Γ Γ' Γ'' : List HP} {ops : Array Oper} {rest : List Oper} {d : Option Tmp} {ty : TypeId} {pos : String} {af : Array Edge} {gd : Option (Nat × Bool)}
theorem cells_of_drop {w : World} {b o k : Nat} {c : Array Value} {T : TypeId} {fz : Nat × Nat} {vs : List Value} (h : w.heap[b]? = some (.cells c T fz)) (hc : (c.toList.drop o).take k = vs) :
 ∀ j u, vs[j]? = some u → w.cell? ((⟨b, o, none⟩ : Addr).add j) = some u := fun j u hj => by
 rw [Addr.add_lit]
 refine cell_of_block h ?_
 subst hc
 rw [List.getElem?_take] at hj
 split at hj
 · rw [List.getElem?_drop] at hj; simpa using hj
 cases hj
theorem heap_drew_alloc (w : World) (o : Obj) : (w.drew.alloc o).heap = w.heap.push o := rfl
theorem run_append0 {w : World} {t e : TypeId} {i : TypeInfo} {z : Value} {sz bytes : Nat} (ht : P.underlying t = some (.slice e)) (hi : P.info? e = some i) (hz : i.zero = some z)
 (hsize : i.size = sz) (hby : i.bytes = bytes) (hzs : z.cells.size = sz) (hsz : 0 < sz) {v : Value} {m m2 c2 : Nat} {a : Addr} {xs news : List Value}
 (hl : news.length = m2 * sz) (h1 : news.all isOne = true) (hbound : (m + m2) * bytes ≤ 140737488355328) (hb0 : 0 < bytes) (s : Sat (Arr e sz v m xs :: Γ) w)
 (hnews : ∀ (j : Nat) (u : Value), news[j]? = some u → w.cell? (a.add j) = some u) :
 ∃ v' w', (Builtin.append_ #[t, t] ty #[v, .slice (some a) m2 c2]).run P w = .ok v' w' ∧ Sat (Arr e sz v' (m + m2) (xs ++ news) :: Γ) w' := by
 subst hsize hby
 have hlen : (xs ++ news).length = (m + m2) * i.size := by
  obtain ⟨_, _, _, ⟨hx, _⟩, _⟩ := s
  rw [List.length_append, hx, hl, Nat.add_mul]
 have hmm : m + m2 ≤ 140737488355328 := Nat.le_trans (Nat.le_mul_of_pos_right _ hb0) hbound
 have h1' : ∀ u ∈ news, u.oneCell' = true := fun u hu => oneCell_of (by simpa using List.all_eq_true.1 h1 u hu)
 have sB : Sat Γ w := sep_drop s
 -- a new array
 have grown : ∀ (old : Nat), old < m + m2 → ∀ w', w'.heap = w.heap.push (.cells (xs.toArray ++ news.toArray ++ Builtin.zeroCells z.cells (grownCap w (m + m2) old e - (m + m2))) e) → w'.os = w.os → w'.output = w.output →
  Sat (Arr e i.size (.slice (some ⟨w.heap.size, 0, none⟩) (m + m2) (grownCap w (m + m2) old e)) (m + m2) (xs ++ news) :: Γ) w' := by
  intro old ho w' hw' eo eu
  have hge := grownCap_ge w (m + m2) old e
  have hcm : grownCap w (m + m2) old e ≤ maxLen := grownCap_le_maxLen w (m + m2) old e (by unfold maxLen; omega)
  have hp := Sat.push sB hw' eo eu
  refine Sat.mono hp (Ent.head fun h p => ⟨hlen, .inr ⟨w.heap.size, _, (Builtin.zeroCells z.cells (grownCap w (m + m2) old e - (m + m2))).toList, rfl, hge, hcm, ?_, ?_⟩⟩)
  · rw [List.length_append, hlen, Array.length_toList, size_zeroCells, hzs, ← Nat.add_mul]
    congr 1; omega
  have e1 : ((xs ++ news) ++ (Builtin.zeroCells z.cells (grownCap w (m + m2) old e - (m + m2))).toList).toArray = xs.toArray ++ news.toArray ++ Builtin.zeroCells z.cells (grownCap w (m + m2) old e - (m + m2)) := by
   apply Array.ext'; simp
  unfold Cl
  rw [e1]; exact p
 obtain ⟨h₁, h₂, hd, ⟨hx, hv⟩, hr⟩ := s
 rcases hv with ⟨rfl, rfl⟩ | ⟨b, cap, sp, rfl, hmc, hcm, hcs, hblk⟩
 · have hxs : xs = [] := List.eq_nil_of_length_eq_zero (by simpa using hx)
   subst hxs
   by_cases hm2 : m2 = 0
   · subst hm2
     have hn : news = [] := List.eq_nil_of_length_eq_zero (by simpa using hl)
     subst hn
     refine ⟨.slice none 0 0, w, ?_, ?_⟩
     · simp [Builtin.append_, run_underlying ht, sizeOf, typeInfo, hi, Builtin.lenOf, Builtin.firstCells, loadCells, loadCellsFrom]
     simpa using (Sat.mono sB (arr_nil e i.size _))
   have hr := run_append_nil (P := P) w t ty e i z ht hi hz a m2 c2 news hl hnews (by omega) (by omega) (by simp only [Nat.zero_add] at hbound; omega)
   have hg := grown 0 (by omega) (w.drew.alloc (.cells (news.toArray ++ Builtin.zeroCells z.cells (grownCap w m2 0 e - m2)) e)) (by
    rw [heap_drew_alloc]; simp) rfl rfl
   simp only [Nat.zero_add, List.nil_append] at hg ⊢
   exact ⟨_, _, hr, hg⟩
 have sC : Sat (Cl b e (xs ++ sp) :: Γ) w := ⟨h₁, h₂, hd, hblk, hr⟩
 have hg := Sat.blk sC
 by_cases hroom : m + m2 ≤ cap
 rotate_left 1
 · have hr := run_append_grow (P := P) w t ty e i z ht hi hz ⟨b, 0, none⟩ m cap xs hx (fun j u hj => by
    rw [Addr.add_lit]
    refine cell_of_block hg ?_
    have hlt := (List.getElem?_eq_some_iff.1 hj).1
    simp only [Nat.zero_add, List.getElem?_toArray]
    rw [List.getElem?_append_left hlt]; exact hj) a m2 c2 news hl hnews (by omega) (by omega) (growslice_fits (by omega) hbound)
   exact ⟨_, _, hr, grown cap (by omega) _ (by rw [heap_drew_alloc]) rfl rfl⟩
 have hfit : m * i.size + news.length ≤ (xs ++ sp).toArray.size := by
  rw [List.size_toArray, hcs, hl, ← Nat.add_mul]; exact Nat.mul_le_mul_right _ hroom
 have hr := run_append_room (P := P) w t ty e i ht hi b m cap (xs ++ sp).toArray hg a m2 c2 news hl hnews h1' hroom hfit
 refine ⟨_, _, hr, ?_⟩
 have hp := Sat.put sC (setRow_get (c' := ((xs ++ sp).toArray.toList.take (m * i.size) ++ news ++ (xs ++ sp).toArray.toList.drop (m * i.size + news.length)).toArray) hg) fun c hc => setRow_ne hc
 refine Sat.mono hp (Ent.head fun h p => ⟨hlen, .inr ⟨b, cap, (sp.drop news.length), rfl, hroom, hcm, ?_, ?_⟩⟩)
 · simp only [List.length_append, List.length_drop] at hcs ⊢
   rw [hx] at hcs ⊢
   have : m * i.size + news.length ≤ cap * i.size := by rw [hl, ← Nat.add_mul]; exact Nat.mul_le_mul_right _ hroom
   omega
 unfold Cl
 have e1 : (xs ++ sp).toArray.toList.take (m * i.size) ++ news ++ (xs ++ sp).toArray.toList.drop (m * i.size + news.length) = (xs ++ news) ++ sp.drop news.length := by
  simp only [← hx]
  rw [List.take_left', List.drop_append]
  · simp
  rfl
 rw [e1] at p
 exact p
theorem run_append {w : World} {t e : TypeId} {i : TypeInfo} {z : Value} {sz bytes : Nat} (ht : P.underlying t = some (.slice e)) (hi : P.info? e = some i) (hz : i.zero = some z)
 (hsize : i.size = sz) (hby : i.bytes = bytes) (hzs : z.cells.size = sz) (hsz : 0 < sz) {v : Value} {m m2 c2 b2 o2 : Nat} {xs news : List Value} {E2 : Array Value} {T2 : TypeId} {fz : Nat × Nat}
 (hl : news.length = m2 * sz) (h1 : news.all isOne = true) (hbound : (m + m2) * bytes ≤ 140737488355328) (hb0 : 0 < bytes) (s : Sat (Arr e sz v m xs :: Blk b2 (.cells E2 T2 fz) :: Γ) w)
 (hE : (E2.toList.drop o2).take (m2 * sz) = news) :
 ∃ v' w', (Builtin.append_ #[t, t] ty #[v, .slice (some ⟨b2, o2, none⟩) m2 c2]).run P w = .ok v' w' ∧ Sat (Arr e sz v' (m + m2) (xs ++ news) :: Blk b2 (.cells E2 T2 fz) :: Γ) w' :=
 run_append0 ht hi hz hsize hby hzs hsz hl h1 hbound hb0 s (cells_of_drop (Sat.blk (sep_swap s |> fun x => (x : Sat (Blk b2 (.cells E2 T2 fz) :: _) w))) hE)
theorem ef_append {x y : Operand} {t e : TypeId} {i : TypeInfo} {z : Value} {sz bytes : Nat} (ht : P.underlying t = some (.slice e)) (hi : P.info? e = some i) (hz : i.zero = some z)
 (hsize : i.size = sz) (hby : i.bytes = bytes) (hzs : z.cells.size = sz) (hsz : 0 < sz) (hb0 : 0 < bytes) {v : Value} {m m2 c2 b2 o2 : Nat} {xs news l2 : List Value} {T2 : TypeId}
 (hx : evE n ρ x = v) (hy : evE n ρ y = .slice (some ⟨b2, o2, none⟩) m2 c2)
 (hs1 : Sel Γ (Arr e sz v m xs) Γ') (hs2 : Sel Γ' (Cl b2 T2 l2) Γ'') (hE : (l2.drop o2).take (m2 * sz) = news) (hl : news.length = m2 * sz) (h1 : news.all isOne = true) (hbound : (m + m2) * bytes ≤ 140737488355328) :
 Ef P n ρ ⟨d, .call ⟨.builtin .append, #[x, y], #[t, t]⟩, ty, pos, af, gd⟩ Γ slV (fun s' => Arr e sz (slV s') (m + m2) (xs ++ news) :: Cl b2 T2 l2 :: Γ'') := fun w s => by
 have s' : Sat (Arr e sz v m xs :: Blk b2 (.cells l2.toArray T2 (0, 0)) :: Γ'') w := s.mono (hs1.ent.trans (Ent.tail hs2.ent))
 obtain ⟨v', w', hr, hS⟩ := run_append (ty := ty) (c2 := c2) (o2 := o2) (b2 := b2) (T2 := T2) ht hi hz hsize hby hzs hsz hl h1 hbound hb0 s' (by simpa using hE)
 obtain ⟨s', rfl, _⟩ : ∃ s', v' = slV s' ∧ s'.2.1 = m + m2 := by
  obtain ⟨h1, h2, d, p, _⟩ := hS
  exact arr_slice p
 refine ⟨s', w', ?_, hS⟩
 simp only [execOp, resolve, invoke, builtin, Sem.run_bind, Sem.run_pure, Result.andThen_ok, List.map_toArray, List.map_cons, List.map_nil, hx, hy, hr]
end
end Go.Px

namespace Go.Px
abbrev ptr (b : Nat) : Value := .pointer (some ⟨b, 0, none⟩)
abbrev Sl (b n c : Nat) : Value := .slice (some ⟨b, 0, none⟩) n c
abbrev Iv (a : Int) : Value := .int .i64 a
def bs (l : List UInt8) : ByteArray := ⟨l.toArray⟩
abbrev Tx (l : List UInt8) : Value := .string (bs l)
section
variable {P : Program} {n : Nat} {Q : Post} {ρ : Env} {ds : List Deferred} {Γ Γ' : List HP} {ops : Array Oper} {rest : List Oper} {d : Option Tmp} {t : Tmp} {op : Op} {ty : TypeId} {pos : String} {af : Array Edge} {gd : Option (Nat × Bool)}
theorem Rm {x : Operand} (v : Value) (h : evE n ρ x = v) : Rd P n ρ ⟨d, .move x, ty, pos, af, gd⟩ Γ v := rd_move h
theorem Ra {x : Operand} (v : Value) (h : evE n ρ x = v) : Rd P n ρ ⟨d, .assign x, ty, pos, af, gd⟩ Γ v := rd_assign h
theorem Rn {x : Operand} (b o : Nat) (h : evE n ρ x = .pointer (some ⟨b, o, none⟩)) : Rd P n ρ ⟨d, .nilCheck x, ty, pos, af, gd⟩ Γ (.pointer (some ⟨b, o, none⟩)) := rd_nilCheck h
theorem Rb {x y : Operand} {B : BinOp} {T yT : TypeId} (u v r : Value) (hx : evE n ρ x = u) (hy : evE n ρ y = v) (hG : eqGuard B T x y u v = pure ()) (hB : binOp B T u v = pure r) : Rd P n ρ ⟨d, .binOp B T x y yT, ty, pos, af, gd⟩ Γ r := rd_binOp hx hy hG hB
theorem Rf {x : Operand} {s f off : Nat} (b o : Nat) (hF : ∀ b o w, (Instr.fieldAt s (.pointer (some ⟨b, o, none⟩)) f).run P w = .ok (.pointer (some ⟨b, o + off, none⟩)) w) (h : evE n ρ x = .pointer (some ⟨b, o, none⟩)) :
 Rd P n ρ ⟨d, .fieldAddr s x f, ty, pos, af, gd⟩ Γ (.pointer (some ⟨b, o + off, none⟩)) := rd_fieldAddr hF h
theorem Rl {x : Operand} {T : TypeId} (b o : Nat) {l : List Value} {E : TypeId} (v : Value) (hA : ∀ w, (isAgg T).run P w = .ok false w) (hx : evE n ρ x = .pointer (some ⟨b, o, none⟩))
 (hs : Sel Γ (Cl b E l) Γ') (hv : l[o]? = some v) : Rd P n ρ ⟨d, .load T x, ty, pos, af, gd⟩ Γ v := rd_load1' hA hx hs hv
theorem Mv {x : Operand} (v : Value) (k : WL P n ops rest Q (upd ρ t v) ds Γ) (h : evE n ρ x = v := by exact rfl) : WL P n ops (⟨some t, .move x, ty, pos, af, none⟩ :: rest) Q ρ ds Γ := WL_rd (rd_move h) k
theorem Av {x : Operand} (v : Value) (k : WL P n ops rest Q (upd ρ t v) ds Γ) (h : evE n ρ x = v := by exact rfl) : WL P n ops (⟨some t, .assign x, ty, pos, af, none⟩ :: rest) Q ρ ds Γ := WL_rd (rd_assign h) k
theorem Pk {c x y : Operand} (b : Bool) (k : WL P n ops rest Q (upd ρ t (bif b then evE n ρ x else evE n ρ y)) ds Γ) (h : evE n ρ c = .bool b := by exact rfl) : WL P n ops (⟨some t, .pick c x y, ty, pos, af, none⟩ :: rest) Q ρ ds Γ := WL_rd (rd_pick h) k
theorem Bo {x y : Operand} {B : BinOp} {T yT : TypeId} (u v r : Value) (hG : eqGuard B T x y u v = pure ()) (hB : binOp B T u v = pure r) (k : WL P n ops rest Q (upd ρ t r) ds Γ) (hx : evE n ρ x = u := by exact rfl) (hy : evE n ρ y = v := by exact rfl) :
 WL P n ops (⟨some t, .binOp B T x y yT, ty, pos, af, none⟩ :: rest) Q ρ ds Γ := WL_rd (rd_binOp hx hy hG hB) k
theorem Fa {x : Operand} {s f off : Nat} (b o : Nat) (hF : ∀ b o w, (Instr.fieldAt s (.pointer (some ⟨b, o, none⟩)) f).run P w = .ok (.pointer (some ⟨b, o + off, none⟩)) w) (k : WL P n ops rest Q (upd ρ t (.pointer (some ⟨b, o + off, none⟩))) ds Γ) (h : evE n ρ x = .pointer (some ⟨b, o, none⟩) := by exact rfl) : WL P n ops (⟨some t, .fieldAddr s x f, ty, pos, af, none⟩ :: rest) Q ρ ds Γ := WL_rd (rd_fieldAddr hF h) k
theorem Lo {x : Operand} {T : TypeId} (b o : Nat) {l : List Value} {E : TypeId} (v : Value) (hA : ∀ w, (isAgg T).run P w = .ok false w) (hs : Sel Γ (Cl b E l) Γ') (hv : l[o]? = some v) (k : WL P n ops rest Q (upd ρ t v) ds Γ) (hx : evE n ρ x = .pointer (some ⟨b, o, none⟩) := by exact rfl) : WL P n ops (⟨some t, .load T x, ty, pos, af, none⟩ :: rest) Q ρ ds Γ := WL_rd (rd_load1' hA hx hs hv) k
theorem Nc {x : Operand} (b o : Nat) (k : WL P n ops rest Q (upd ρ t (.pointer (some ⟨b, o, none⟩))) ds Γ) (h : evE n ρ x = .pointer (some ⟨b, o, none⟩) := by exact rfl) : WL P n ops (⟨some t, .nilCheck x, ty, pos, af, none⟩ :: rest) Q ρ ds Γ := WL_rd (rd_nilCheck h) k
theorem Xt {x : Operand} {vs : Array Value} {i : Nat} (v : Value) (k : WL P n ops rest Q (upd ρ t v) ds Γ) (h : evE n ρ x = .tuple vs := by exact rfl) (hi : vs[i]? = some v := by exact rfl) : WL P n ops (⟨some t, .extract x i, ty, pos, af, none⟩ :: rest) Q ρ ds Γ := WL_rd (rd_extract h hi) k
theorem Pa {j : Nat} {b : Bool} (b' : Bool) (e : Tmp) (k : WL P n ops rest Q (upd ρ t undef) ds Γ) (hde : (ops[j]?).bind (·.dst) = some e := by exact rfl) (hv : evE n ρ (.tmp e) = .bool b' := by exact rfl) (hne : (b' == b) = false := by exact rfl) :
 WL P n ops (⟨some t, op, ty, pos, af, some (j, b)⟩ :: rest) Q ρ ds Γ := WL_pass hde hv hne k
theorem Ta {j : Nat} {b : Bool} (b' : Bool) (e : Tmp) (k : WL P n ops (⟨d, op, ty, pos, af, none⟩ :: rest) Q ρ ds Γ) (hde : (ops[j]?).bind (·.dst) = some e := by exact rfl) (hv : evE n ρ (.tmp e) = .bool b' := by exact rfl) (he : (b' == b) = true := by exact rfl) :
 WL P n ops (⟨d, op, ty, pos, af, some (j, b)⟩ :: rest) Q ρ ds Γ := WL_take hde hv he k
def enumV : Nat → List Value → List (Nat × Value)
 | _, [] => []
 | i, v :: l => (i, v) :: enumV (i + 1) l
theorem Bl {T : TypeId} {len : Nat} {parts : List (Nat × Operand)} (E : TypeId) (l : List Value) (hB : ∀ w, (Instr.buildSlice T len (enumV 0 l).toArray).run P w = .ok (.slice (some ⟨w.heap.size, 0, none⟩) len len) { w with heap := w.heap.push (.cells l.toArray E (0, 0)) }) (k : ∀ b : Nat, WL P n ops rest Q (upd ρ t (.slice (some ⟨b, 0, none⟩) len len)) ds (Cl b E l :: Γ)) (h : parts.map (fun p => (p.1, evE n ρ p.2)) = enumV 0 l := by exact rfl) : WL P n ops (⟨some t, .buildSlice T len parts.toArray, ty, pos, af, none⟩ :: rest) Q ρ ds Γ := WL_ef (ef_buildSlice h hB) k
theorem Sa {x y : Operand} {T : TypeId} {m : Nat} {l l' : List Value} {E : TypeId} (b o : Nat) (vs : List Value) (hS : ∀ w, (sizeOf T).run P w = .ok m w) (hs : Sel Γ (Cl b E l) Γ') (hp : Put l o vs l') (k : WL P n ops rest Q ρ ds (Cl b E l' :: Γ')) (hx : evE n ρ x = .pointer (some ⟨b, o, none⟩) := by exact rfl) (hy : evE n ρ y = .agg vs.toArray := by exact rfl) (hv : (Value.agg vs.toArray).cells = vs.toArray := by exact rfl) (hm : vs.length = m := by exact rfl) (h1 : vs.all isOne = true := by exact rfl) :
 WL P n ops (⟨none, .store T x y, ty, pos, af, none⟩ :: rest) Q ρ ds Γ := WL_ef0 (ef_store hS hx hy hv hm h1 hs hp) k
theorem S1 {x y : Operand} {T : TypeId} {m : Nat} {l l' : List Value} {E : TypeId} (b o : Nat) (v : Value) (hS : ∀ w, (sizeOf T).run P w = .ok m w) (hs : Sel Γ (Cl b E l) Γ') (hp : Put l o [v] l') (k : WL P n ops rest Q ρ ds (Cl b E l' :: Γ')) (hx : evE n ρ x = .pointer (some ⟨b, o, none⟩) := by exact rfl) (hy : evE n ρ y = v := by exact rfl) (hv : v.cells = [v].toArray := by exact rfl) (hm : [v].length = m := by exact rfl) (h1 : [v].all isOne = true := by exact rfl) :
 WL P n ops (⟨none, .store T x y, ty, pos, af, none⟩ :: rest) Q ρ ds Γ := WL_ef0 (ef_store hS hx hy hv hm h1 hs hp) k
theorem Ny {id : Nat} {l : List Oper} {z : Code} (h : WL P n l.toArray l (thenQ P n z Q) ρ ds Γ) : WL P n ops [] (thenQ P n (.seq (.region id l.toArray false) z) Q) ρ ds Γ := WL_nil (At_then (WC_seq (WC_region h)))
theorem Nz {id : Nat} {l : List Oper} {y z : Code} (h : WL P n l.toArray l (thenQ P n y (thenQ P n z Q)) ρ ds Γ) : WL P n ops [] (thenQ P n (.seq (.seq (.region id l.toArray false) y) z) Q) ρ ds Γ := WL_nil (At_then (WC_seq (WC_seq (WC_region h))))
theorem Nr (h : At .ret Q ρ ds Γ) : WL P n ops [] (thenQ P n .ret Q) ρ ds Γ := WL_nil (At_then (WC_ret h))
theorem Nt {y : Code} (h : WC P n y Q ρ ds Γ) : WL P n ops [] (thenQ P n y Q) ρ ds Γ := WL_nil (At_then h)
theorem Sr {id : Nat} {l : List Oper} {z : Code} (h : WL P n l.toArray l (thenQ P n z Q) ρ ds Γ) : WC P n (.seq (.region id l.toArray false) z) Q ρ ds Γ := WC_seq (WC_region h)
theorem Sz {id : Nat} {l : List Oper} {y z : Code} (h : WL P n l.toArray l (thenQ P n y (thenQ P n z Q)) ρ ds Γ) : WC P n (.seq (.seq (.region id l.toArray false) y) z) Q ρ ds Γ := WC_seq (WC_seq (WC_region h))
theorem Fs {c : Operand} {x z : Code} (h : WC P n z Q ρ ds Γ) (hc : evE n ρ c = .bool false := by exact rfl) : WC P n (.cond c x .skip) (thenQ P n z Q) ρ ds Γ := WC_false hc (WC_skip (At_then h))
theorem Fx {c : Operand} {x : Code} {id : Nat} {l : List Oper} {z : Code} (h : WL P n l.toArray l (thenQ P n z Q) ρ ds Γ) (hc : evE n ρ c = .bool false := by exact rfl) : WC P n (.cond c x .skip) (thenQ P n (.seq (.region id l.toArray false) z) Q) ρ ds Γ := Fs (Sr h) hc
theorem Fz {c : Operand} {x : Code} {id : Nat} {l : List Oper} {y z : Code} (h : WL P n l.toArray l (thenQ P n y (thenQ P n z Q)) ρ ds Γ) (hc : evE n ρ c = .bool false := by exact rfl) : WC P n (.cond c x .skip) (thenQ P n (.seq (.seq (.region id l.toArray false) y) z) Q) ρ ds Γ := Fs (Sz h) hc
theorem Tr {c : Operand} {y : Code} {id : Nat} {l : List Oper} (h : WL P n l.toArray l Q ρ ds Γ) (hc : evE n ρ c = .bool true := by exact rfl) : WC P n (.cond c (.region id l.toArray false) y) Q ρ ds Γ := WC_true hc (WC_region h)
theorem Ts {c : Operand} {y z : Code} {id : Nat} {l : List Oper} (h : WL P n l.toArray l (thenQ P n z Q) ρ ds Γ) (hc : evE n ρ c = .bool true := by exact rfl) : WC P n (.cond c (.seq (.region id l.toArray false) z) y) Q ρ ds Γ := WC_true hc (Sr h)
end
section
variable {P : Program} {n : Nat} {Q : Post} {ρ : Env} {ds : List Deferred} {Γ Γ' Γ0 : List HP} {ops : Array Oper} {late : List Nat} {fuel : Nat} {L : Array Bool}
theorem Dt (i : Nat) {o : Oper} {t : Tmp} {v : Value} (ho : ops[i]? = some o) (hd : o.dst = some t) (hE : Ent Γ Γ0) (hr : Rd P n ρ o Γ0 v)
 (k : WD P n ops late Γ0 fuel (L.setIfInBounds i true) Q (upd ρ t v) ds Γ) (hok : takeOk ops late L i = true := by kernel_rfl) (hg : o.guard = none := by exact rfl) : WD P n ops late Γ0 (fuel + 1) L Q ρ ds Γ := WD_take i ho hd hok hg hE hr k
theorem Dp (i : Nat) {o : Oper} {t : Tmp} {v : Value} (ho : ops[i]? = some o) (hd : o.dst = some t) (hE : unl late L → Ent Γ Γ0) (hr : Rd P n ρ o [] v)
 (k : WD P n ops late Γ0 fuel (L.setIfInBounds i true) Q (upd ρ t v) ds Γ) (hok : takeOkP ops late L i = true := by kernel_rfl) (hg : o.guard = none := by exact rfl) : WD P n ops late Γ0 (fuel + 1) L Q ρ ds Γ := WD_takeP i ho hd hok hg hE hr k
end
section
variable {A B C D E : HP} {Γ Γ1 Γ2 Γ3 Γ4 Γ5 Δ : List HP}
theorem Z0 : Sel (A :: Γ) A Γ := .zero
theorem Z1 : Sel (B :: A :: Γ) A (B :: Γ) := .succ .zero
theorem Z2 : Sel (C :: B :: A :: Γ) A (C :: B :: Γ) := .succ (.succ .zero)
theorem Z3 : Sel (D :: C :: B :: A :: Γ) A (D :: C :: B :: Γ) := .succ (.succ (.succ .zero))
theorem Z4 : Sel (E :: D :: C :: B :: A :: Γ) A (E :: D :: C :: B :: Γ) := .succ (.succ (.succ (.succ .zero)))
theorem K1 (a : Sel Γ A Γ1) : Sels Γ [A] Γ1 := .cons a .nil
theorem K2 (a : Sel Γ A Γ1) (b : Sel Γ1 B Γ2) : Sels Γ [A, B] Γ2 := .cons a (.cons b .nil)
theorem K3 (a : Sel Γ A Γ1) (b : Sel Γ1 B Γ2) (c : Sel Γ2 C Γ3) : Sels Γ [A, B, C] Γ3 := .cons a (.cons b (.cons c .nil))
theorem K4 (a : Sel Γ A Γ1) (b : Sel Γ1 B Γ2) (c : Sel Γ2 C Γ3) (d : Sel Γ3 D Γ4) : Sels Γ [A, B, C, D] Γ4 := .cons a (.cons b (.cons c (.cons d .nil)))
theorem En {Γ' : List HP} (h : Sel Γ A Γ') (h2 : Ent Γ' Δ) : Ent Γ (A :: Δ) := h.ent.trans (Ent.tail h2)
theorem E0 : Ent Γ Γ := Ent.refl _
theorem E1 (a : Sel Γ A Γ1) : Ent Γ (A :: Γ1) := a.ent
theorem E2 (a : Sel Γ A Γ1) (b : Sel Γ1 B Γ2) : Ent Γ (A :: B :: Γ2) := En a (E1 b)
theorem E3 (a : Sel Γ A Γ1) (b : Sel Γ1 B Γ2) (c : Sel Γ2 C Γ3) : Ent Γ (A :: B :: C :: Γ3) := En a (E2 b c)
theorem E4 (a : Sel Γ A Γ1) (b : Sel Γ1 B Γ2) (c : Sel Γ2 C Γ3) (d : Sel Γ3 D Γ4) : Ent Γ (A :: B :: C :: D :: Γ4) := En a (E3 b c d)
theorem D1 : Ent (A :: Γ) Γ := .dropHead (.refl _)
theorem D2 : Ent (A :: B :: Γ) Γ := .dropHead D1
theorem D3 : Ent (A :: B :: C :: Γ) Γ := .dropHead D2
theorem D4 : Ent (A :: B :: C :: D :: Γ) Γ := .dropHead D3
end
end Go.Px

namespace Go.Px
abbrev Bs := List UInt8
structure Tk where
 kind : Int
 text : Bs
 pos : Int
 en : Int
inductive PT where
 | node (kind : Int) (text : Bs) (num : Int) (pos : Int) (kids : List PT)
def PT.kind : PT → Int
 | .node k _ _ _ _ => k
def PT.num : PT → Int
 | .node _ _ n _ _ => n
def PT.kids : PT → List PT
 | .node _ _ _ _ l => l
def PT.pos : PT → Int
 | .node _ _ _ a _ => a
def PT.moved : PT → Int → PT
 | .node k s n _ l, a => .node k s n a l
def M (α : Type) := List Tk → Option (Except Int (α × List Tk))
def M.bind {α β : Type} (m : M α) (f : α → M β) : M β := fun ts => match m ts with
 | none => none
 | some (.error e) => some (.error e)
 | some (.ok (x, ts')) => f x ts'
def M.pure {α : Type} (x : α) : M α := fun ts => some (.ok (x, ts))
instance : Monad M := { pure := M.pure, bind := M.bind }
theorem M.assoc {α β γ : Type} (m : M α) (f : α → M β) (k : β → M γ) : ((m >>= f) >>= k) = (m >>= fun x => f x >>= k) := by
 funext ts
 show M.bind (M.bind m f) k ts = M.bind m (fun x => M.bind (f x) k) ts
 unfold M.bind
 cases m ts with
 | none => rfl
 | some e => cases e <;> rfl
theorem M.pureb {α β : Type} (x : α) (k : α → M β) : ((Pure.pure x : M α) >>= k) = k x := rfl
theorem M.bpure {α : Type} (m : M α) : (m >>= fun x => (Pure.pure x : M α)) = m := by
 funext ts
 show M.bind m M.pure ts = m ts
 unfold M.bind M.pure
 cases m ts with
 | none => rfl
 | some e => cases e <;> rfl
def oofM {α : Type} : M α := fun _ => none
def nowM : M Tk := fun ts => match ts with
 | [] => none
 | t :: l => some (.ok (t, t :: l))
def nextM : M Tk := fun ts => match ts with
 | [] => none
 | [t] => some (.ok (t, [t]))
 | t :: u :: l => some (.ok (t, u :: l))
def failM {α : Type} : M α := fun ts => match ts with
 | [] => none
 | t :: _ => some (.error t.pos)
theorem M.failb {α β : Type} (k : α → M β) : ((failM : M α) >>= k) = failM := by
 funext ts
 cases ts <;> rfl
def thenM (n : Nat) : M Tk := fun ts => match ts with
 | [] => none
 | t :: l => some (.ok (((t :: l)[n]?).getD ((t :: l).getLast?.getD t), t :: l))
def pushM (u : Tk) : M Unit := fun ts => match ts with
 | [] => none
 | _ :: l => some (.ok ((), u :: l))
def saysB (t : Tk) (s : Bs) : Bool := (t.kind == 9 || t.kind == 2) && t.text == s
def turnT (t : Tk) : Int :=
 bif t.kind == 6 then 1 else bif t.kind == 8 then -1 else bif t.kind == 9 then
  (bif t.text == [40] || t.text == [91] || t.text == [123] then 1 else bif t.text == [41] || t.text == [93] || t.text == [125] then -1 else 0) else 0
def closeAt : Int → List Tk → Option (List Tk)
 | _, [] => none
 | n, t :: l => bif n + turnT t == 0 then some l else closeAt (n + turnT t) l
def closedM : M Tk := fun ts => match ts with
 | [] => none
 | t :: l => some (.ok ((match closeAt 0 (t :: l) with
  | some (u :: _) => u
  | _ => (t :: l).getLast?.getD t), t :: l))
def isM (s : Bs) : M Bool := do
 let t ← nowM
 pure (saysB t s)
def takeM (s : Bs) : M Bool := do
 let b ← isM s
 bif !b then pure false else do
 let _ ← nextM
 pure true
def mustM (s : Bs) : M Unit := do
 let b ← takeM s
 bif !b then failM else pure ()
def nameM : M Bs := do
 let t ← nowM
 bif t.kind != 1 then failM else do
 let t ← nextM
 pure t.text
def splitT (t : Tk) : Option Tk :=
 match t.text with
 | c :: d :: l => bif t.kind == 9 && c == 62 then some { t with text := d :: l, pos := t.pos + 1 } else none
 | _ => none
def angleM : M Unit := do
 let b ← takeM [62]
 bif b then pure () else do
 let t ← nowM
 match splitT t with
 | none => failM
 | some u => pushM u
def noneM : M PT := do
 let t ← nowM
 pure (.node 1 [] 0 t.pos [])
def emptyM : M PT := do
 let t ← nowM
 pure (.node 2 [] 0 t.pos [])
def takeAny : List Bs → M Bool
 | [] => pure false
 | s :: l => do
  let b ← takeM s
  bif b then pure true else takeAny l
def takeOne : List Bs → M (Option Bs)
 | [] => pure none
 | s :: l => do
  let b ← takeM s
  bif !b then takeOne l else pure (some s)
def moreM : Nat → M PT → List PT → M (List PT)
 | 0, _, _ => oofM
 | k + 1, m, acc => do
  let b ← takeM [44]
  bif b then (do
   let x ← m
   moreM k m (acc ++ [x])) else pure acc
def listM (K : Nat) (m : M PT) : M PT := do
 let t ← nowM
 let x ← m
 let l ← moreM K m [x]
 pure (.node 2 [] 0 t.pos l)
inductive NT where
 | statement | expr | typed | block | branch | round | cond | rows | objectType | plain | optional | args | part | ref | piece | unary | arrowType | postf | primary | given | template | object
 | loop (at_ : Int) | ended (kind at_ : Int) (may : Bool) | tri (at_ : Int) | arrowed (at_ : Int) | enu (n at_ : Int) | variabl (n at_ : Int) | functio (kind at_ : Int) | clas (at_ : Int) | namespac (at_ : Int)
 | refs (w : Bs) | params (marks : Bool) | level (n : Nat) | worded (t : Tk)
def numOf (s : Bs) : Int := s.foldl (fun v c => v * 10 + ((c.toNat : Int) - 48)) 0
def wordsOf (s : Bs) : Int :=
 bif s == [116, 114, 117, 101] then 13 else bif s == [102, 97, 108, 115, 101] then 14 else bif s == [110, 117, 108, 108] then 15 else bif s == [117, 110, 100, 101, 102, 105, 110, 101, 100] then 16 else bif s == [116, 104, 105, 115] then 18 else 0
def sgn : Nat → Option (List Bs)
 | 0 => some [[124, 124]]
 | 1 => some [[38, 38]]
 | 2 => some [[124]]
 | 3 => some [[94]]
 | 4 => some [[38]]
 | 5 => some [[61, 61, 61], [33, 61, 61]]
 | 6 => some [[60], [60, 61], [62], [62, 61], [105, 110], [97, 115]]
 | 7 => some [[60, 60], [62, 62], [62, 62, 62]]
 | 8 => some [[43], [45]]
 | 9 => some [[42], [37]]
 | _ => none
section
variable (K : Nat) (g : NT → M PT)
def arrowM : M Bool := do
 let t ← nowM
 bif t.kind == 1 then (do
  let u ← thenM 1
  pure (saysB u [61, 62])) else do
 let b ← isM [40]
 bif b then (do
  let u ← closedM
  pure (saysB u [61, 62])) else isM [60]
def exprM : M PT := do
 let t ← nowM
 let a ← arrowM
 bif a then g (.arrowed t.pos) else do
 let x ← g .cond
 let s ← nowM
 let b ← takeAny [[61], [43, 61], [45, 61], [42, 61], [37, 61]]
 bif b then (bif x.kind != 17 && x.kind != 29 && x.kind != 30 then failM else do
  let y ← g .expr
  pure (.node 26 s.text 0 t.pos [x, y])) else pure x
def varM : M PT := do
 let t ← nowM
 let s ← nameM
 pure (.node 67 s 0 t.pos [])
def varsM : M PT := do
 let t ← nowM
 let b ← takeM [60]
 bif !b then emptyM else do
 let l ← listM K varM
 angleM
 pure (l.moved t.pos)
def arrowedM (at_ : Int) : M PT := do
 let v ← emptyM
 let p ← emptyM
 let t ← nowM
 bif t.kind == 1 then (do
  let s ← nameM
  let o ← noneM
  mustM [61, 62]
  let b ← isM [123]
  let y ← (bif b then g .block else g .expr)
  pure (.node 22 [] 0 at_ [v, .node 2 [] 0 p.pos [.node 66 s 0 at_ [o]], y])) else do
 let v ← varsM K
 mustM [40]
 let p ← g (.params false)
 mustM [41]
 mustM [61, 62]
 let b ← isM [123]
 let y ← (bif b then g .block else g .expr)
 pure (.node 22 [] 0 at_ [v, p, y])
def condM : M PT := do
 let t ← nowM
 let x ← g (.level 0)
 let b ← takeM [63]
 bif !b then pure x else do
 let y ← g .expr
 mustM [58]
 let z ← g .expr
 pure (.node 25 [] 0 t.pos [x, y, z])
def againM (n : Nat) (l : List Bs) (at_ : Int) : Nat → PT → M PT
 | 0, _ => oofM
 | k + 1, x => do
  let s ← takeOne l
  match s with
  | none => pure x
  | some s => bif s == [97, 115] then (do
   let y ← g .typed
   againM n l at_ k (.node 33 [] 0 at_ [x, y])) else do
   let y ← g (.level (n + 1))
   againM n l at_ k (.node 24 s 0 at_ [x, y])
def levelM (n : Nat) : M PT :=
 match sgn n with
 | none => bif n == 10 then g .unary else oofM
 | some l => do
  let t ← nowM
  let x ← g (.level (n + 1))
  againM g n l t.pos K x
def unaryM : M PT := do
 let t ← nowM
 let b ← takeAny [[33], [45], [126], [116, 121, 112, 101, 111, 102]]
 bif b then (do
  let x ← g .unary
  pure (.node 23 t.text 0 t.pos [x])) else g .postf
def givenM : M PT := do
 mustM [40]
 let l ← emptyM
 let b ← isM [41]
 let l ← (bif !b then listM K (g .expr) else pure l)
 mustM [41]
 pure l
def callsM : M Bool := fun ts => match g .args ts with
 | none => none
 | some (.error _) => some (.ok (false, ts))
 | some (.ok (_, ts')) => match isM [40] ts' with
  | none => none
  | some (.error _) => some (.ok (false, ts))
  | some (.ok (b, _)) => some (.ok (b, ts))
def partsM (at_ : Int) : Nat → PT → M PT
 | 0, _ => oofM
 | k + 1, x => do
  let b ← takeM [46]
  bif b then (do
   let s ← nameM
   partsM at_ k (.node 29 s 0 at_ [x])) else do
  let b ← takeM [91]
  bif b then (do
   let y ← g .expr
   mustM [93]
   partsM at_ k (.node 30 [] 0 at_ [x, y])) else do
  let b ← isM [40]
  let c ← (bif b then pure true else do
   let d ← isM [60]
   bif d then callsM g else pure false)
  bif c then (do
   let ty ← g .args
   let l ← g .given
   partsM at_ k (.node 27 [] 0 at_ [x, ty, l])) else do
  let b ← takeM [33]
  bif b then partsM at_ k (.node 34 [] 0 at_ [x]) else pure x
def postfM : M PT := do
 let t ← nowM
 let x ← g .primary
 partsM g t.pos K x
def primaryM : M PT := do
 let t ← nowM
 bif t.kind == 3 then (do
  let _ ← nextM
  pure (.node 10 [] (numOf t.text) t.pos [])) else
 bif t.kind == 4 then (do
  let _ ← nextM
  pure (.node 11 t.text 0 t.pos [])) else
 bif t.kind == 5 || t.kind == 6 then g .template else
 bif t.kind == 1 then (do
  let _ ← nextM
  pure (.node 17 t.text 0 t.pos [])) else
 bif t.kind == 2 then g (.worded t) else do
 let b ← takeM [40]
 bif b then (do
  let x ← g .expr
  mustM [41]
  pure x) else do
 let b ← takeM [91]
 bif b then (do
  let c ← isM [93]
  let ks ← (bif !c then (do
   let l ← listM K (g .expr)
   pure l.kids) else pure [])
  mustM [93]
  pure (.node 19 [] 0 t.pos ks)) else g .object
def dotsM (first : Int) : Nat → PT → M PT
 | 0, _ => oofM
 | k + 1, x => do
  let b ← takeM [46]
  bif b then (do
   let s ← nameM
   dotsM first k (.node 29 s 0 first [x])) else pure x
def wordedM (t : Tk) : M PT :=
 bif wordsOf t.text != 0 then (do
  let _ ← nextM
  pure (.node (wordsOf t.text) [] 0 t.pos [])) else do
 let b ← takeM [110, 101, 119]
 bif b then (do
  let f ← nowM
  let s ← nameM
  let x ← dotsM f.pos K (.node 17 s 0 f.pos [])
  let ty ← g .args
  let l ← g .given
  pure (.node 28 [] 0 t.pos [x, ty, l])) else do
 let b ← takeM [115, 117, 112, 101, 114]
 bif b then (do
  let c ← takeM [46]
  bif c then (do
   let s ← nameM
   pure (.node 32 s 0 t.pos [])) else do
  let l ← g .given
  pure (.node 31 [] 0 t.pos [l])) else failM
def tplM : Nat → Int → List PT → M (List PT)
 | 0, _, _ => oofM
 | k + 1, tk, acc => bif tk != 5 && tk != 8 then (do
  let e ← g .expr
  let n ← nowM
  bif n.kind != 7 && n.kind != 8 then failM else do
  let t ← nextM
  tplM k t.kind (acc ++ [e] ++ [.node 11 t.text 0 t.pos []])) else pure acc
def templateM : M PT := do
 let t ← nextM
 let l ← tplM g K t.kind [.node 11 t.text 0 t.pos []]
 pure (.node 12 [] 0 t.pos l)
def pairsM : Nat → List PT → M (List PT)
 | 0, _ => oofM
 | k + 1, acc => do
  let b ← isM [125]
  bif !b then (do
   let a ← nowM
   let s ← nameM
   let c ← takeM [58]
   let x ← (bif c then g .expr else pure (.node 17 s 0 a.pos []))
   let d ← takeM [44]
   bif !d then pure (acc ++ [.node 21 s 0 a.pos [x]]) else pairsM k (acc ++ [.node 21 s 0 a.pos [x]])) else pure acc
def objectM : M PT := do
 let t ← nowM
 mustM [123]
 let l ← pairsM g K []
 mustM [125]
 pure (.node 20 [] 0 t.pos l)
def stmtsM : Nat → List PT → M (List PT)
 | 0, _ => oofM
 | k + 1, acc => do
  let b ← isM [125]
  bif !b then (do
   let x ← g .statement
   stmtsM k (acc ++ [x])) else pure acc
def blockM : M PT := do
 let t ← nowM
 mustM [123]
 let l ← stmtsM g K []
 mustM [125]
 pure (.node 63 [] 0 t.pos l)
def roundM : M PT := do
 mustM [40]
 let x ← g .expr
 mustM [41]
 pure x
def endedM (kind at_ : Int) (may : Bool) : M PT := do
 let x ← noneM
 let b ← (bif !may then pure true else do
  let c ← isM [59]
  pure (!c))
 let x ← (bif b then g .expr else pure x)
 mustM [59]
 pure (.node kind [] 0 at_ [x])
def declM (t : Tk) : M (Option PT) := do
 let b ← isM [99, 111, 110, 115, 116]
 let c ← (bif b then (do
  let u ← thenM 1
  pure (saysB u [101, 110, 117, 109])) else pure false)
 bif c then (do
  let _ ← nextM
  let x ← g (.enu 1 t.pos)
  pure (some x)) else do
 let b ← takeM [108, 101, 116]
 bif b then (do
  let x ← g (.variabl 0 t.pos)
  mustM [59]
  pure (some x)) else do
 let b ← takeM [99, 111, 110, 115, 116]
 bif b then (do
  let x ← g (.variabl 1 t.pos)
  mustM [59]
  pure (some x)) else do
 let b ← takeM [102, 117, 110, 99, 116, 105, 111, 110]
 bif b then (do
  let x ← g (.functio 41 t.pos)
  pure (some x)) else do
 let b ← takeM [99, 108, 97, 115, 115]
 bif b then (do
  let x ← g (.clas t.pos)
  pure (some x)) else do
 let b ← isM [101, 110, 117, 109]
 bif b then (do
  let x ← g (.enu 0 t.pos)
  pure (some x)) else do
 let b ← takeM [110, 97, 109, 101, 115, 112, 97, 99, 101]
 bif b then (do
  let x ← g (.namespac t.pos)
  pure (some x)) else do
 let b ← takeM [105, 110, 116, 101, 114, 102, 97, 99, 101]
 bif b then (do
  let s ← nameM
  let v ← varsM K
  let l ← g (.refs [101, 120, 116, 101, 110, 100, 115])
  let o ← g .objectType
  pure (some (.node 51 s 0 t.pos [v, l, o]))) else do
 let b ← takeM [116, 121, 112, 101]
 bif b then (do
  let s ← nameM
  let v ← varsM K
  mustM [61]
  let x ← g .typed
  mustM [59]
  pure (some (.node 52 s 0 t.pos [v, x]))) else pure none
def restM (t : Tk) : M PT := do
 let b ← isM [123]
 bif b then g .block else do
 let b ← takeM [59]
 bif b then pure (.node 65 [] 0 t.pos []) else do
 let b ← isM [105, 102]
 bif b then g .branch else do
 let b ← takeM [119, 104, 105, 108, 101]
 bif b then (do
  let x ← g .round
  let y ← g .block
  pure (.node 54 [] 0 t.pos [x, y])) else do
 let b ← takeM [102, 111, 114]
 bif b then g (.loop t.pos) else do
 let b ← takeM [114, 101, 116, 117, 114, 110]
 bif b then g (.ended 57 t.pos true) else do
 let b ← takeM [116, 104, 114, 111, 119]
 bif b then g (.ended 60 t.pos false) else do
 let b ← takeM [98, 114, 101, 97, 107]
 bif b then (do
  mustM [59]
  pure (.node 58 [] 0 t.pos [])) else do
 let b ← takeM [99, 111, 110, 116, 105, 110, 117, 101]
 bif b then (do
  mustM [59]
  pure (.node 59 [] 0 t.pos [])) else do
 let b ← takeM [116, 114, 121]
 bif b then g (.tri t.pos) else g (.ended 64 t.pos false)
def statementM : M PT := do
 let t ← nowM
 bif t.kind == 2 then (do
  let d ← declM K g t
  match d with
  | some x => pure x
  | none => restM g t) else restM g t
def branchM : M PT := do
 let t ← nowM
 mustM [105, 102]
 let x ← g .round
 let y ← g .block
 let z ← noneM
 let b ← takeM [101, 108, 115, 101]
 let z ← (bif b then (do
  let c ← isM [105, 102]
  bif c then g .branch else g .block) else pure z)
 pure (.node 53 [] 0 t.pos [x, y, z])
def mayM (e : Bs) : M PT := do
 let x ← noneM
 let b ← isM e
 let x ← (bif !b then g .expr else pure x)
 mustM e
 pure x
def loopM (at_ : Int) : M PT := do
 mustM [40]
 let b ← (do
  let b1 ← isM [108, 101, 116]
  bif b1 then pure true else isM [99, 111, 110, 115, 116])
 let c ← (bif b then (do
  let u ← thenM 1
  pure (u.kind == 1)) else pure false)
 let d ← (bif c then (do
  let u ← thenM 2
  pure (saysB u [111, 102])) else pure false)
 bif d then (do
  let t ← nextM
  let s ← nameM
  mustM [111, 102]
  let x ← g .expr
  mustM [41]
  let y ← g .block
  pure (.node 56 s (bif t.text == [99, 111, 110, 115, 116] then 1 else 0) at_ [x, y])) else do
 let f ← noneM
 let v ← nowM
 let b ← takeM [108, 101, 116]
 let f ← (bif b then g (.variabl 0 v.pos) else pure f)
 mustM [59]
 let t ← mayM g [59]
 let s ← mayM g [41]
 let y ← g .block
 pure (.node 55 [] 0 at_ [f, t, s, y])
def variablM (n at_ : Int) : M PT := do
 let s ← nameM
 let t ← g .optional
 mustM [61]
 let x ← g .expr
 pure (.node 40 s n at_ [t, x])
def triM (at_ : Int) : M PT := do
 let x ← g .block
 let y ← noneM
 let c ← nowM
 let b ← takeM [99, 97, 116, 99, 104]
 let y ← (bif b then (do
  mustM [40]
  let s ← nameM
  mustM [41]
  let k ← g .block
  pure (.node 62 s 0 c.pos [k])) else pure y)
 let z ← noneM
 let b ← takeM [102, 105, 110, 97, 108, 108, 121]
 let z ← (bif b then g .block else pure z)
 bif y.kind == 1 && z.kind == 1 then failM else
 pure (.node 61 [] 0 at_ [x, y, z])
def functioM (kind at_ : Int) : M PT := do
 let s ← nameM
 let v ← varsM K
 mustM [40]
 let l ← g (.params false)
 mustM [41]
 let t ← g .optional
 let b ← g .block
 pure (.node kind s 0 at_ [v, l, t, b])
def classM : Nat → Int → List PT → M (Int × List PT)
 | 0, _, _ => oofM
 | k + 1, c, acc => do
  let b ← isM [125]
  bif !b then (do
   let x ← g .part
   classM k (bif x.kind == 46 then c + 1 else c) (acc ++ [x])) else pure (c, acc)
def clasM (at_ : Int) : M PT := do
 let s ← nameM
 let v ← varsM K
 let o ← noneM
 let b ← nowM
 let e ← takeM [101, 120, 116, 101, 110, 100, 115]
 let o ← (bif e then (do
  let n ← nameM
  let a ← g .args
  pure (.node 43 n 0 b.pos [a])) else pure o)
 let i ← g (.refs [105, 109, 112, 108, 101, 109, 101, 110, 116, 115])
 mustM [123]
 let l ← emptyM
 let q ← classM g K 0 []
 bif decide (q.1 > 1) then failM else do
 mustM [125]
 pure (.node 42 s 0 at_ [v, o, i, .node 2 [] 0 l.pos q.2])
def partM : M PT := do
 let t ← nowM
 let b ← takeM [99, 111, 110, 115, 116, 114, 117, 99, 116, 111, 114]
 bif b then (do
  mustM [40]
  let l ← g (.params true)
  mustM [41]
  let k ← g .block
  pure (.node 46 [] 0 t.pos [l, k])) else do
 let u ← thenM 1
 let t1 ← nowM
 bif t1.kind == 1 && (saysB u [40] || saysB u [60]) then g (.functio 45 t.pos) else do
 let b ← takeM [114, 101, 97, 100, 111, 110, 108, 121]
 let s ← nameM
 let o ← g .optional
 let x ← noneM
 let c ← takeM [61]
 let x ← (bif c then g .expr else pure x)
 mustM [59]
 pure (.node 44 s (bif b then 4 else 0) t.pos [o, x])
def membersM : Nat → List PT → M (List PT)
 | 0, _ => oofM
 | k + 1, acc => do
  let b ← isM [125]
  bif !b then (do
   let m ← nowM
   let s ← nameM
   let x ← noneM
   let c ← takeM [61]
   let x ← (bif c then g .expr else pure x)
   let d ← takeM [44]
   bif !d then pure (acc ++ [.node 48 s 0 m.pos [x]]) else membersM k (acc ++ [.node 48 s 0 m.pos [x]])) else pure acc
def enuM (n at_ : Int) : M PT := do
 mustM [101, 110, 117, 109]
 let s ← nameM
 mustM [123]
 let l ← membersM g K []
 mustM [125]
 pure (.node 47 s n at_ l)
def nsM : Nat → List PT → M (List PT)
 | 0, _ => oofM
 | k + 1, acc => do
  let b ← isM [125]
  bif !b then (do
   let t ← nowM
   let e ← takeM [101, 120, 112, 111, 114, 116]
   bif !e then (do
    let x ← g .statement
    nsM k (acc ++ [x])) else do
   let c ← (do
    let b1 ← isM [108, 101, 116]
    bif b1 then pure true else do
    let u ← nowM
    pure (u.kind != 2))
   bif c then failM else do
   let u ← nowM
   let d ← declM K g u
   match d with
   | none => failM
   | some x => bif x.kind == 47 && x.num == 1 then failM else nsM k (acc ++ [.node 50 [] 0 t.pos [x]])) else pure acc
def namespacM (at_ : Int) : M PT := do
 let s ← nameM
 mustM [123]
 let l ← nsM K g K []
 mustM [125]
 pure (.node 49 s 0 at_ l)
def unionM : Nat → List PT → M (List PT)
 | 0, _ => oofM
 | k + 1, acc => do
  let b ← takeM [124]
  bif b then (do
   let x ← g .rows
   unionM k (acc ++ [x])) else pure acc
def typedM : M PT := do
 let t ← nowM
 let _ ← takeM [124]
 let x ← g .rows
 let b ← isM [124]
 bif !b then pure x else do
 let l ← unionM g K [x]
 pure (.node 87 [] 0 t.pos l)
def rowM (at_ : Int) : Nat → PT → M PT
 | 0, _ => oofM
 | k + 1, x => do
  let b ← isM [91]
  let c ← (bif b then (do
   let u ← thenM 1
   pure (saysB u [93])) else pure false)
  bif c then (do
   let _ ← nextM
   let _ ← nextM
   rowM at_ k (.node 83 [] 0 at_ [x])) else pure x
def rowsM : M PT := do
 let t ← nowM
 let x ← g .plain
 rowM t.pos K x
def plainM : M PT := do
 let t ← nowM
 let b ← isM [40]
 let c ← (bif b then (do
  let u ← closedM
  pure (saysB u [61, 62])) else pure false)
 bif c then g .arrowType else do
 let b ← takeM [40]
 bif b then (do
  let x ← g .typed
  mustM [41]
  pure x) else
 bif t.kind == 3 then (do
  let _ ← nextM
  pure (.node 81 [] (numOf t.text) t.pos [])) else do
 let b ← takeM [45]
 bif b then (do
  let u ← nowM
  bif u.kind != 3 then failM else do
  let u ← nextM
  pure (.node 81 [] (-(numOf u.text)) t.pos [])) else
 bif t.kind == 4 then (do
  let _ ← nextM
  pure (.node 82 t.text 0 t.pos [])) else do
 let b ← isM [123]
 bif b then g .objectType else g .ref
def arrowTypeM : M PT := do
 let t ← nowM
 mustM [40]
 let l ← g (.params false)
 mustM [41]
 mustM [61, 62]
 let x ← g .typed
 pure (.node 86 [] 0 t.pos [l, x])
def pathM : Nat → Bs → M Bs
 | 0, _ => oofM
 | k + 1, s => do
  let b ← takeM [46]
  bif b then (do
   let u ← nameM
   pathM k (s ++ ([46] ++ u))) else pure s
def refM : M PT := do
 let t ← nowM
 let b ← takeAny [[110, 117, 108, 108], [117, 110, 100, 101, 102, 105, 110, 101, 100], [116, 114, 117, 101], [102, 97, 108, 115, 101]]
 bif b then (do
  let l ← emptyM
  pure (.node 80 t.text 0 t.pos [l])) else do
 let s ← nameM
 let s ← pathM K s
 let a ← g .args
 pure (.node 80 s 0 t.pos [a])
def refsM (w : Bs) : M PT := do
 let t ← nowM
 let b ← takeM w
 bif !b then emptyM else do
 let l ← listM K (g .ref)
 pure (l.moved t.pos)
def argsM : M PT := do
 let t ← nowM
 let b ← takeM [60]
 bif !b then emptyM else do
 let l ← listM K (g .typed)
 angleM
 pure (l.moved t.pos)
def optionalM : M PT := do
 let b ← takeM [58]
 bif b then g .typed else noneM
def piecesM : Nat → List PT → M (List PT)
 | 0, _ => oofM
 | k + 1, acc => do
  let b ← isM [125]
  bif !b then (do
   let x ← g .piece
   let c ← takeM [59]
   let d ← (bif !c then (do
    let e ← takeM [44]
    pure (!e)) else pure false)
   bif d then pure (acc ++ [x]) else piecesM k (acc ++ [x])) else pure acc
def objectTypeM : M PT := do
 let t ← nowM
 mustM [123]
 let l ← piecesM g K []
 mustM [125]
 pure (.node 84 [] 0 t.pos l)
def pieceM : M PT := do
 let t ← nowM
 let s ← nameM
 let b ← isM [40]
 bif b then (do
  let o ← nowM
  mustM [40]
  let l ← g (.params false)
  mustM [41]
  mustM [58]
  let x ← g .typed
  pure (.node 85 s 0 t.pos [.node 86 [] 0 o.pos [l, x]])) else do
 let q ← takeM [63]
 mustM [58]
 let x ← g .typed
 pure (.node 85 s (bif q then 1 else 0) t.pos [x])
def paramM (marks : Bool) : M PT := do
 let t ← nowM
 let a ← (bif marks then takeM [112, 117, 98, 108, 105, 99] else pure false)
 let b ← (bif marks then takeM [114, 101, 97, 100, 111, 110, 108, 121] else pure false)
 let s ← nameM
 let q ← takeM [63]
 let o ← g .optional
 pure (.node 66 s ((bif a then 2 else 0) + (bif b then 4 else 0) + (bif q then 1 else 0)) t.pos [o])
def paramsM (marks : Bool) : M PT := do
 let b ← isM [41]
 bif b then emptyM else listM K (paramM g marks)
def stepM : NT → M PT
 | .statement => statementM K g
 | .expr => exprM g
 | .typed => typedM K g
 | .block => blockM K g
 | .branch => branchM g
 | .round => roundM g
 | .cond => condM g
 | .rows => rowsM K g
 | .objectType => objectTypeM K g
 | .plain => plainM g
 | .optional => optionalM g
 | .args => argsM K g
 | .part => partM g
 | .ref => refM K g
 | .piece => pieceM g
 | .unary => unaryM g
 | .arrowType => arrowTypeM g
 | .postf => postfM K g
 | .primary => primaryM K g
 | .given => givenM K g
 | .template => templateM K g
 | .object => objectM K g
 | .loop a => loopM g a
 | .ended k a m => endedM g k a m
 | .tri a => triM g a
 | .arrowed a => arrowedM K g a
 | .enu n a => enuM K g n a
 | .variabl n a => variablM g n a
 | .functio k a => functioM K g k a
 | .clas a => clasM K g a
 | .namespac a => namespacM K g a
 | .refs w => refsM K g w
 | .params m => paramsM K g m
 | .level n => levelM K g n
 | .worded t => wordedM K g t
end
def gr (K : Nat) : Nat → NT → M PT
 | 0, _ => oofM
 | n + 1, nt => stepM K (gr K n) nt
def progM (g : NT → M PT) : Nat → List PT → M (List PT)
 | 0, _ => oofM
 | k + 1, acc => do
  let t ← nowM
  bif t.kind != 10 then (do
   let x ← g .statement
   progM g k (acc ++ [x])) else pure acc
def runM (K : Nat) (g : NT → M PT) (whole : Nat) : M PT := do
 let n ← (bif whole == 0 then (do
  let l ← progM g K []
  pure (.node 3 [] 0 0 l)) else bif whole == 1 then g .expr else g .typed)
 let t ← nowM
 bif t.kind != 10 then failM else pure n
end Go.Px
