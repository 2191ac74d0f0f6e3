/- Plain laws of the parser: it always comes to an end (with fuel enough), leaves no more than there was, and its trees are no larger than what was gone through. -/
import Derived.Test.YtldagpopfebbbaaGreatDoorZG
import Derived.Test.YtldagpopfebbbaaGreatDoorZL
set_option linter.unusedVariables false
set_option linter.unusedSimpArgs false
set_option linter.unusedSectionVars false
namespace Go.Px
def tw : List Tk → Nat
 | [] => 0
 | t :: l => t.text.length + 1 + tw l
def GoodT (ts : List Tk) : Prop := ∃ t, ts.getLast? = some t ∧ t.kind = 10
def Tri {α : Type} (m : M α) (ts : List Tk) (Q : α → List Tk → Prop) : Prop := ∃ r, m ts = some r ∧ ∀ x ts', r = .ok (x, ts') → Q x ts'
theorem GoodT.cons {t : Tk} {l : List Tk} (h : GoodT (t :: l)) (hk : t.kind ≠ 10) : GoodT l ∧ ∃ u r, l = u :: r := by
 obtain ⟨z, h1, h2⟩ := h
 cases l with
 | nil =>
  have : t = z := by simpa using h1
  subst this; exact absurd h2 hk
 | cons u r => exact ⟨⟨z, by simpa [List.getLast?_cons_cons] using h1, h2⟩, u, r, rfl⟩
theorem GoodT.ne {ts : List Tk} (h : GoodT ts) : ∃ t l, ts = t :: l := by
 cases ts with
 | nil => obtain ⟨z, h1, _⟩ := h; simp at h1
 | cons t l => exact ⟨t, l, rfl⟩
theorem GoodT.push {t u : Tk} {l : List Tk} (h : GoodT (t :: l)) (hk : t.kind ≠ 10) : GoodT (u :: l) := by
 obtain ⟨⟨z, h1, h2⟩, v, r, rfl⟩ := h.cons hk
 exact ⟨z, by rw [List.getLast?_cons_cons]; exact h1, h2⟩
section
variable {α β : Type} {ts : List Tk} {Q : β → List Tk → Prop} {m : M α} {k : α → M β}
theorem Tri.bind (h : Tri m ts fun x ts' => Tri (k x) ts' Q) : Tri (m >>= k) ts Q := by
 obtain ⟨r, h1, h2⟩ := h
 cases r with
 | error a => exact ⟨.error a, (show M.bind m k ts = _ by unfold M.bind; rw [h1]), fun _ _ h => by cases h⟩
 | ok p =>
  obtain ⟨x, ts'⟩ := p
  obtain ⟨r, h3, h4⟩ := h2 x ts' rfl
  exact ⟨r, (show M.bind m k ts = _ by unfold M.bind; rw [h1]; exact h3), h4⟩
theorem Tri.mono {Q' : α → List Tk → Prop} {Q : α → List Tk → Prop} (h : Tri m ts Q') (f : ∀ x ts', Q' x ts' → Q x ts') : Tri m ts Q := by
 obtain ⟨r, h1, h2⟩ := h; exact ⟨r, h1, fun x ts' e => f _ _ (h2 x ts' e)⟩
theorem tri_pure {x : β} (h : Q x ts) : Tri (pure x) ts Q := ⟨_, rfl, fun _ _ e => by cases e; exact h⟩
theorem tri_fail (h : GoodT ts) : Tri (failM : M β) ts Q := by
 obtain ⟨t, l, rfl⟩ := h.ne; exact ⟨_, rfl, fun _ _ e => by cases e⟩
theorem tri_bif {b : Bool} {m n : M β} (h1 : b = true → Tri m ts Q) (h0 : b = false → Tri n ts Q) : Tri (bif b then m else n) ts Q := by
 cases b with
 | true => exact h1 rfl
 | false => exact h0 rfl
theorem tri_bifb {b : Bool} {m n : M α} (h1 : b = true → Tri (m >>= k) ts Q) (h0 : b = false → Tri (n >>= k) ts Q) : Tri ((bif b then m else n) >>= k) ts Q := by
 cases b with
 | true => exact h1 rfl
 | false => exact h0 rfl
theorem tri_now {k : Tk → M β} (h : GoodT ts) (h1 : ∀ t l, ts = t :: l → Tri (k t) ts Q) : Tri (nowM >>= k) ts Q := by
 obtain ⟨t, l, rfl⟩ := h.ne
 exact Tri.bind ⟨_, rfl, fun _ _ e => by cases e; exact h1 t l rfl⟩
theorem tri_then {i : Nat} {k : Tk → M β} (h : GoodT ts) (h1 : ∀ t, Tri (k t) ts Q) : Tri (thenM i >>= k) ts Q := by
 obtain ⟨t, l, rfl⟩ := h.ne
 exact Tri.bind ⟨_, rfl, fun _ _ e => by cases e; exact h1 _⟩
theorem tri_closed {k : Tk → M β} (h : GoodT ts) (h1 : ∀ t, Tri (k t) ts Q) : Tri (closedM >>= k) ts Q := by
 obtain ⟨t, l, rfl⟩ := h.ne
 exact Tri.bind ⟨_, rfl, fun _ _ e => by cases e; exact h1 _⟩
theorem next_ok (h : GoodT ts) : ∃ t l ts', ts = t :: l ∧ nextM ts = some (.ok (t, ts')) ∧ GoodT ts' ∧ tw ts' ≤ tw ts ∧ (t.kind ≠ 10 → tw ts' + 1 ≤ tw ts ∧ ts' = l) := by
 obtain ⟨t, l, rfl⟩ := h.ne
 cases l with
 | nil =>
  refine ⟨t, [], [t], rfl, rfl, h, Nat.le_refl _, fun hk => ?_⟩
  obtain ⟨_, u, r, e⟩ := h.cons hk; cases e
 | cons u r =>
  refine ⟨t, u :: r, u :: r, rfl, rfl, ?_, ?_, fun hk => ⟨?_, rfl⟩⟩
  · obtain ⟨z, h1, h2⟩ := h; exact ⟨z, by rw [List.getLast?_cons_cons] at h1; exact h1, h2⟩
  · simp only [tw]; omega
  simp only [tw]; omega
theorem tri_next {k : Tk → M β} (h : GoodT ts) (h1 : ∀ t l ts', ts = t :: l → GoodT ts' → tw ts' ≤ tw ts → (t.kind ≠ 10 → tw ts' + 1 ≤ tw ts ∧ ts' = l) → Tri (k t) ts' Q) : Tri (nextM >>= k) ts Q := by
 obtain ⟨t, l, ts', e, h2, h3, h4, h5⟩ := next_ok h
 exact Tri.bind ⟨_, h2, fun _ _ e' => by cases e'; exact h1 t l ts' e h3 h4 h5⟩
theorem tri_nextH {k : Tk → M β} {t : Tk} {l : List Tk} (h : GoodT ts) (ht : ts = t :: l) (hk : t.kind ≠ 10) (h1 : ∀ ts', GoodT ts' → tw ts' + 1 ≤ tw ts → Tri (k t) ts' Q) : Tri (nextM >>= k) ts Q :=
 tri_next h fun t' l' ts' e h2 h3 h4 => by
  rw [ht] at e; injection e with e1 e2; subst e1
  exact h1 ts' h2 (h4 hk).1
theorem says_kind {t : Tk} {s : Bs} (h : saysB t s = true) : t.kind ≠ 10 := by
 unfold saysB at h
 simp only [Bool.and_eq_true, Bool.or_eq_true, beq_iff_eq] at h
 omega
theorem tri_is {s : Bs} {k : Bool → M β} (h : GoodT ts) (h1 : ∀ t l, ts = t :: l → saysB t s = true → Tri (k true) ts Q) (h0 : Tri (k false) ts Q) : Tri (isM s >>= k) ts Q := by
 unfold isM
 rw [M.assoc]
 refine tri_now h fun t l e => ?_
 rw [M.pureb]
 cases hb : saysB t s with
 | true => exact h1 t l e hb
 | false => exact h0
theorem tri_take {s : Bs} {k : Bool → M β} (h : GoodT ts) (h1 : ∀ ts', GoodT ts' → tw ts' + 1 ≤ tw ts → Tri (k true) ts' Q) (h0 : Tri (k false) ts Q) : Tri (takeM s >>= k) ts Q := by
 unfold takeM
 rw [M.assoc]
 refine tri_is h (fun t l e hb => ?_) ?_
 · show Tri ((nextM >>= fun _ => pure true) >>= k) ts Q
   rw [M.assoc]
   refine tri_next h fun t' l' ts' e' h2 h3 h4 => ?_
   rw [e] at e'; injection e' with e1 e2; subst e1
   exact h1 ts' h2 (h4 (says_kind hb)).1
 exact h0
theorem tri_takeT {s : Bs} {k : Bool → M β} {t : Tk} {l : List Tk} (h : GoodT ts) (ht : ts = t :: l) (hs : saysB t s = true) (h1 : ∀ ts', GoodT ts' → tw ts' + 1 ≤ tw ts → Tri (k true) ts' Q) : Tri (takeM s >>= k) ts Q := by
 unfold takeM isM
 simp only [M.assoc]
 refine tri_now h fun t' l' e => ?_
 rw [ht] at e; injection e with e1 e2; subst e1
 simp only [M.pureb, hs]
 show Tri ((nextM >>= fun _ => pure true) >>= k) ts Q
 rw [M.assoc]
 exact tri_nextH h ht (says_kind hs) h1
theorem tri_must {s : Bs} {k : Unit → M β} (h : GoodT ts) (h1 : ∀ ts', GoodT ts' → tw ts' + 1 ≤ tw ts → Tri (k ()) ts' Q) : Tri (mustM s >>= k) ts Q := by
 unfold mustM
 rw [M.assoc]
 refine tri_take h (fun ts' h2 h3 => h1 ts' h2 h3) ?_
 show Tri (failM >>= k) ts Q
 rw [M.failb]; exact tri_fail h
theorem tri_name {k : Bs → M β} (h : GoodT ts) (h1 : ∀ s ts', GoodT ts' → tw ts' + 1 ≤ tw ts → Tri (k s) ts' Q) : Tri (nameM >>= k) ts Q := by
 unfold nameM
 rw [M.assoc]
 refine tri_now h fun t l e => ?_
 cases hb : (t.kind != 1) with
 | true => show Tri (failM >>= k) ts Q; rw [M.failb]; exact tri_fail h
 | false =>
  show Tri ((nextM >>= fun t => pure t.text) >>= k) ts Q
  rw [M.assoc]
  refine tri_next h fun t' l' ts' e' h2 h3 h4 => ?_
  rw [e] at e'; injection e' with e1 e2; subst e1
  have hk : t.kind = 1 := by simpa using hb
  exact h1 _ ts' h2 (h4 (by omega)).1
theorem tri_none {k : PT → M β} (h : GoodT ts) (h1 : ∀ a, Tri (k (.node 1 [] 0 a [])) ts Q) : Tri (noneM >>= k) ts Q := by
 unfold noneM; rw [M.assoc]; exact tri_now h fun t l e => h1 _
theorem tri_empty {k : PT → M β} (h : GoodT ts) (h1 : ∀ a, Tri (k (.node 2 [] 0 a [])) ts Q) : Tri (emptyM >>= k) ts Q := by
 unfold emptyM; rw [M.assoc]; exact tri_now h fun t l e => h1 _
theorem split_tw {t u : Tk} (h : splitT t = some u) : t.kind = 9 ∧ u.kind = 9 ∧ u.text.length + 1 = t.text.length := by
 obtain ⟨kk, s, p, en⟩ := t
 rcases s with _ | ⟨c, _ | ⟨d, l⟩⟩
 · cases h
 · cases h
 simp only [splitT] at h
 cases hb : (kk == 9 && c == 62) with
 | false => rw [hb] at h; cases h
 | true =>
  rw [hb] at h
  simp only [Bool.and_eq_true, beq_iff_eq] at hb
  cases h
  exact ⟨hb.1, hb.1, by simp⟩
theorem tri_angle {k : Unit → M β} (h : GoodT ts) (h1 : ∀ ts', GoodT ts' → tw ts' + 1 ≤ tw ts → Tri (k ()) ts' Q) : Tri (angleM >>= k) ts Q := by
 unfold angleM
 rw [M.assoc]
 refine tri_take h (fun ts' h2 h3 => h1 ts' h2 h3) ?_
 show Tri ((nowM >>= fun t => match splitT t with | none => failM | some u => pushM u) >>= k) ts Q
 rw [M.assoc]
 refine tri_now h fun t l e => ?_
 cases hs : splitT t with
 | none => show Tri (failM >>= k) ts Q; rw [M.failb]; exact tri_fail h
 | some u =>
  obtain ⟨h2, h3, h4⟩ := split_tw hs
  show Tri (pushM u >>= k) ts Q
  subst e
  refine Tri.bind ⟨_, rfl, fun _ _ e' => by cases e'; exact h1 _ (h.push (by omega)) (by simp only [tw]; omega)⟩
theorem tri_takeOne {k : Option Bs → M β} (h : GoodT ts) (h1 : ∀ s ts', GoodT ts' → tw ts' + 1 ≤ tw ts → Tri (k (some s)) ts' Q) (h0 : Tri (k none) ts Q) : ∀ l, Tri (takeOne l >>= k) ts Q
 | [] => h0
 | s :: l => by
  unfold takeOne
  rw [M.assoc]
  refine tri_take h (fun ts' h2 h3 => h1 s ts' h2 h3) ?_
  exact tri_takeOne h h1 h0 l
end
def rank : NT → Nat
 | .primary => 3 | .postf => 4 | .unary => 5 | .level n => 16 - n | .cond => 18 | .expr => 19 | .ended _ _ _ => 20 | .statement => 22
 | .plain => 3 | .rows => 4 | .typed => 5 | .tri _ => 2 | .part => 2 | .template => 1 | .worded _ => 1 | .object => 1
 | _ => 1
def pre : NT → List Tk → Prop
 | .level n, _ => n ≤ 10
 | .template, ts => ∃ t l, ts = t :: l ∧ t.kind ≠ 10
 | .worded _, ts => ∃ t l, ts = t :: l ∧ t.kind ≠ 10
 | _, _ => True
def slack : NT → Nat
 | .optional => 1 | .args => 1 | .refs _ => 1 | .params _ => 1
 | _ => 0
def gain : NT → Nat
 | .given => 8
 | _ => 0
def post (nt : NT) (ts : List Tk) (x : PT) (ts' : List Tk) : Prop := GoodT ts' ∧ x.size + gain nt + 16 * tw ts' ≤ 16 * tw ts + slack nt
def GH (K n : Nat) (g : NT → M PT) : Prop := ∀ nt ts, GoodT ts → pre nt ts → tw ts < K → 32 * tw ts + rank nt < n → Tri (g nt) ts (post nt ts)
section
variable {K n : Nat} {g : NT → M PT} {β : Type} {ts : List Tk} {Q : β → List Tk → Prop}
theorem tri_g (hg : GH K n g) (nt : NT) {k : PT → M β} (h : GoodT ts) (hp : pre nt ts) (hK : tw ts < K) (hn : 32 * tw ts + rank nt < n) (h1 : ∀ x ts', GoodT ts' → x.size + gain nt + 16 * tw ts' ≤ 16 * tw ts + slack nt → 1 ≤ x.size → Tri (k x) ts' Q) : Tri (g nt >>= k) ts Q :=
 Tri.bind ((hg nt ts h hp hK hn).mono fun x ts' p => h1 x ts' p.1 p.2 (size_pos x))
theorem tri_g0 (hg : GH K n g) (nt : NT) {Q : PT → List Tk → Prop} (h : GoodT ts) (hp : pre nt ts) (hK : tw ts < K) (hn : 32 * tw ts + rank nt < n) (h1 : ∀ x ts', GoodT ts' → x.size + gain nt + 16 * tw ts' ≤ 16 * tw ts + slack nt → 1 ≤ x.size → Q x ts') : Tri (g nt) ts Q :=
 (hg nt ts h hp hK hn).mono fun x ts' p => h1 x ts' p.1 p.2 (size_pos x)
theorem tri_none0 {Q : PT → List Tk → Prop} (h : GoodT ts) (h1 : ∀ a, Q (.node 1 [] 0 a []) ts) : Tri noneM ts Q := by rw [← M.bpure noneM]; exact tri_none h fun a => tri_pure (h1 a)
theorem tri_empty0 {Q : PT → List Tk → Prop} (h : GoodT ts) (h1 : ∀ a, Q (.node 2 [] 0 a []) ts) : Tri emptyM ts Q := by rw [← M.bpure emptyM]; exact tri_empty h fun a => tri_pure (h1 a)
end
theorem nrmP : (∀ {α β γ : Type} (m : M α) (f : α → M β) (k : β → M γ), ((m >>= f) >>= k) = (m >>= fun x => f x >>= k)) ∧ (∀ {α β : Type} (x : α) (k : α → M β), ((Pure.pure x : M α) >>= k) = k x) ∧
 (∀ {α β : Type} (k : α → M β), ((failM : M α) >>= k) = failM) ∧ (∀ k s n a l, PT.kind (.node k s n a l) = k) ∧ (∀ k s n a l, PT.num (.node k s n a l) = n) ∧ (∀ k s n a l, PT.kids (.node k s n a l) = l) ∧
 (∀ k s n a l, PT.pos (.node k s n a l) = a) ∧ (∀ k s n a l b, PT.moved (.node k s n a l) b = .node k s n b l) ∧ (takeAny [] = (Pure.pure false : M Bool)) ∧
 (∀ s l, takeAny (s :: l) = (takeM s >>= fun b => bif b then Pure.pure true else takeAny l)) ∧
 (∀ {α : Type} (x y : α), (bif true then x else y) = x) ∧ (∀ {α : Type} (x y : α), (bif false then x else y) = y) ∧ ((!true) = false) ∧ ((!false) = true) :=
 ⟨M.assoc, M.pureb, M.failb, fun _ _ _ _ _ => rfl, fun _ _ _ _ _ => rfl, fun _ _ _ _ _ => rfl, fun _ _ _ _ _ => rfl, fun _ _ _ _ _ _ => rfl, rfl, fun _ _ => rfl, fun _ _ => rfl, fun _ _ => rfl, rfl, rfl⟩
theorem moved_size (x : PT) (a : Int) : (x.moved a).size = x.size := by cases x; rfl
theorem sizes_snoc (l : List PT) (x : PT) : sizes (l ++ [x]) = sizes l + x.size := by rw [sizes_append]; simp [sizes]
end Go.Px

namespace Go.Px
section
variable {K n : Nat} {g : NT → M PT} {β : Type} {ts : List Tk} {Q : β → List Tk → Prop}
theorem tri_more {m : M PT} (T : Nat) (hm : ∀ ts, GoodT ts → tw ts ≤ T → Tri m ts fun x ts' => GoodT ts' ∧ x.size + 16 * tw ts' ≤ 16 * tw ts) :
 ∀ k acc ts, GoodT ts → tw ts ≤ T → tw ts < k → Tri (moreM k m acc) ts fun l ts' => GoodT ts' ∧ sizes l + 16 * tw ts' ≤ sizes acc + 16 * tw ts := by
 intro k
 induction k with
 | zero => intro acc ts _ _ h; omega
 | succ k ih =>
  intro acc ts h hT hk
  unfold moreM
  refine tri_take h (fun ts' h1 h2 => ?_) ?_
  · refine Tri.bind ((hm ts' h1 (by omega)).mono fun x ts2 p => ?_)
    refine (ih (acc ++ [x]) ts2 p.1 (by omega) (by omega)).mono fun l ts3 q => ⟨q.1, ?_⟩
    have := q.2; rw [sizes_snoc] at this; omega
  exact tri_pure ⟨h, by omega⟩
theorem tri_list {m : M PT} (T : Nat) (hm : ∀ ts, GoodT ts → tw ts ≤ T → Tri m ts fun x ts' => GoodT ts' ∧ x.size + 16 * tw ts' ≤ 16 * tw ts) {k : PT → M β} (h : GoodT ts) (hT : tw ts ≤ T) (hK : T < K)
 (h1 : ∀ a l ts', GoodT ts' → (PT.node 2 [] 0 a l).size + 16 * tw ts' ≤ 16 * tw ts + 1 → Tri (k (.node 2 [] 0 a l)) ts' Q) : Tri (listM K m >>= k) ts Q := by
 unfold listM
 rw [M.assoc]
 refine tri_now h fun t l ht => ?_
 rw [M.assoc]
 refine Tri.bind ((hm ts h hT).mono fun x ts' p => ?_)
 rw [M.assoc]
 refine Tri.bind ((tri_more T hm K [x] ts' p.1 (by omega) (by omega)).mono fun l ts2 q => ?_)
 rw [M.pureb]
 have := q.2; simp only [sizes] at this
 exact h1 _ _ _ q.1 (by simp only [PT.size]; omega)
theorem tri_varM (h : GoodT ts) : Tri varM ts fun x ts' => GoodT ts' ∧ x.size + 16 * tw ts' ≤ 16 * tw ts := by
 unfold varM
 try simp only [nrmP]
 refine tri_now h fun t l ht => ?_
 try simp only [nrmP]
 refine tri_name h fun s ts' h1 h2 => ?_
 exact tri_pure ⟨h1, by simp only [PT.size, sizes]; omega⟩
theorem tri_vars {k : PT → M β} (h : GoodT ts) (hK : tw ts < K) (h1 : ∀ x ts', GoodT ts' → x.size + 16 * tw ts' ≤ 16 * tw ts + 1 → Tri (k x) ts' Q) : Tri (varsM K >>= k) ts Q := by
 unfold varsM
 simp only [nrmP]
 refine tri_now h fun t l ht => ?_
 refine tri_take h (fun ts' h2 h3 => ?_) ?_ <;> simp only [nrmP]
 · refine tri_list (tw ts') (fun ts h _ => tri_varM h) h2 (Nat.le_refl _) (by omega) fun a l ts2 h4 h5 => ?_
   refine tri_angle h4 fun ts3 h6 h7 => ?_
   simp only [nrmP]
   exact h1 _ _ h6 (by simp only [PT.size] at h5 ⊢; omega)
 refine tri_empty h fun a => h1 _ _ h (by simp only [PT.size, sizes]; omega)
variable (hg : GH K n g)
include hg
theorem tri_lg (nt : NT) {k : PT → M β} (h : GoodT ts) (hp : ∀ ts, pre nt ts) (hs : slack nt = 0) (hK : tw ts < K) (hn : 32 * tw ts + rank nt < n)
 (h1 : ∀ a l ts', GoodT ts' → (PT.node 2 [] 0 a l).size + 16 * tw ts' ≤ 16 * tw ts + 1 → Tri (k (.node 2 [] 0 a l)) ts' Q) : Tri (listM K (g nt) >>= k) ts Q :=
 tri_list (tw ts) (fun ts h hT => tri_g0 hg nt h (hp ts) (by omega) (by omega) fun x ts' a b _ => ⟨a, by omega⟩) h (Nat.le_refl _) (by omega) h1
theorem tri_calls {k : Bool → M β} (h : GoodT ts) (hK : tw ts < K) (hn : 32 * tw ts + 1 < n) (h1 : ∀ b, Tri (k b) ts Q) : Tri (callsM g >>= k) ts Q := by
 obtain ⟨r, e, p⟩ := hg .args ts h trivial hK hn
 have : ∃ b, callsM g ts = some (.ok (b, ts)) := by
  unfold callsM
  rw [e]
  cases r with
  | error a => exact ⟨_, rfl⟩
  | ok q =>
   obtain ⟨x, ts'⟩ := q
   have hg' := (p x ts' rfl).1
   obtain ⟨t, l, rfl⟩ := hg'.ne
   exact ⟨_, rfl⟩
 obtain ⟨b, e⟩ := this
 exact Tri.bind ⟨_, e, fun _ _ e => by cases e; exact h1 b⟩
set_option maxHeartbeats 20000000 in
theorem l_all : (∀ (a : Int) k x ts, GoodT ts → tw ts < K → tw ts < k → 32 * tw ts + 23 < n → Tri (partsM g a k x) ts (fun y ts' => GoodT ts' ∧ y.size + 16 * tw ts' ≤ x.size + 16 * tw ts)) ∧
 (∀ (a : Int) k x ts, GoodT ts → tw ts < K → tw ts < k → 32 * tw ts + 23 < n → Tri (dotsM a k x) ts (fun y ts' => GoodT ts' ∧ y.size + 16 * tw ts' ≤ x.size + 16 * tw ts)) ∧
 (∀ (a : Int) k x ts, GoodT ts → tw ts < K → tw ts < k → 32 * tw ts + 23 < n → Tri (rowM a k x) ts (fun y ts' => GoodT ts' ∧ y.size + 16 * tw ts' ≤ x.size + 16 * tw ts)) ∧
 (∀ (u : Unit) k (tt : Int) acc ts, GoodT ts → tw ts < K → tw ts < k → 32 * tw ts + 23 < n → Tri (tplM g k tt acc) ts (fun l ts' => GoodT ts' ∧ sizes l + 16 * tw ts' ≤ sizes acc + 16 * tw ts)) ∧
 (∀ (u : Unit) k acc ts, GoodT ts → tw ts < K → tw ts < k → 32 * tw ts + 23 < n → Tri (pairsM g k acc) ts (fun l ts' => GoodT ts' ∧ sizes l + 16 * tw ts' ≤ sizes acc + 16 * tw ts)) ∧
 (∀ (u : Unit) k acc ts, GoodT ts → tw ts < K → tw ts < k → 32 * tw ts + 23 < n → Tri (stmtsM g k acc) ts (fun l ts' => GoodT ts' ∧ sizes l + 16 * tw ts' ≤ sizes acc + 16 * tw ts)) ∧
 (∀ (u : Unit) k (c : Int) acc ts, GoodT ts → tw ts < K → tw ts < k → 32 * tw ts + 23 < n → Tri (classM g k c acc) ts (fun l ts' => GoodT ts' ∧ sizes l.2 + 16 * tw ts' ≤ sizes acc + 16 * tw ts)) ∧
 (∀ (u : Unit) k acc ts, GoodT ts → tw ts < K → tw ts < k → 32 * tw ts + 23 < n → Tri (membersM g k acc) ts (fun l ts' => GoodT ts' ∧ sizes l + 16 * tw ts' ≤ sizes acc + 16 * tw ts)) ∧
 (∀ (u : Unit) k acc ts, GoodT ts → tw ts < K → tw ts < k → 32 * tw ts + 23 < n → Tri (unionM g k acc) ts (fun l ts' => GoodT ts' ∧ sizes l + 16 * tw ts' ≤ sizes acc + 16 * tw ts)) ∧
 (∀ (u : Unit) k acc ts, GoodT ts → tw ts < K → tw ts < k → 32 * tw ts + 23 < n → Tri (piecesM g k acc) ts (fun l ts' => GoodT ts' ∧ sizes l + 16 * tw ts' ≤ sizes acc + 16 * tw ts)) ∧
 (∀ (u : Unit) k s ts, GoodT ts → tw ts < K → tw ts < k → 32 * tw ts + 23 < n → Tri (pathM k s) ts (fun l ts' => GoodT ts' ∧ tw ts' ≤ tw ts)) := by
 refine ⟨?_, ?_, ?_, ?_, ?_, ?_, ?_, ?_, ?_, ?_, ?_⟩
 all_goals
  intro a k
  induction k with
  | zero => intros; omega
  | succ k ih =>
   intros
   first | unfold partsM | unfold dotsM | unfold rowM | unfold tplM | unfold pairsM | unfold stmtsM | unfold classM | unfold membersM | unfold unionM | unfold piecesM | unfold pathM
   try simp only [nrmP]
   repeat' ((first
    | with_reducible exact tri_fail ‹_›
    | with_reducible refine tri_now ‹_› fun t l ht => ?_
    | with_reducible refine tri_take ‹_› (fun ts' h1 h2 => ?_) ?_
    | with_reducible refine tri_must ‹_› fun ts' h1 h2 => ?_
    | with_reducible refine tri_name ‹_› fun s ts' h1 h2 => ?_
    | with_reducible refine tri_is ‹_› (fun t l h1 h2 => ?_) ?_
    | with_reducible refine tri_then ‹_› fun t => ?_
    | with_reducible refine tri_closed ‹_› fun t => ?_
    | with_reducible refine tri_none ‹_› fun a => ?_
    | with_reducible refine tri_empty ‹_› fun a => ?_
    | with_reducible refine tri_angle ‹_› fun ts' h1 h2 => ?_
    | refine tri_nextH ‹_› ‹_› (by first | assumption | exact says_kind ‹_› | (intro h9; simp [h9] at *; done)) fun ts' h1 h2 => ?_
    | with_reducible refine tri_next ‹_› fun t l ts' e h1 h2 h3 => ?_
    | with_reducible refine tri_vars ‹_› (by omega) fun x ts' h1 h2 => ?_
    | with_reducible refine tri_bifb (fun hb => ?_) (fun hb => ?_)
    | with_reducible refine tri_bif (fun hb => ?_) (fun hb => ?_)
    | exact tri_pure ⟨‹_›, by (try simp only [PT.size, sizes, sizes_snoc, sizes_append, moved_size, slack, gain]); first | omega | (simp only [PT.size, sizes] at *; omega)⟩
    | (refine tri_g hg _ ‹_› (by first | trivial | (show (_ : Nat) ≤ 10; omega)) (by omega) (by simp only [rank]; omega) fun x ts' h1 h2 h3 => ?_; simp only [slack, gain] at h2)
    | (refine tri_g0 hg _ ‹_› (by first | trivial | (show (_ : Nat) ≤ 10; omega)) (by omega) (by simp only [rank]; omega) fun x ts' h1 h2 h3 => ⟨h1, ?_⟩; simp only [slack, gain] at h2 ⊢; omega)
    | exact tri_none0 ‹_› fun a => ⟨‹_›, by simp only [PT.size, sizes, slack, gain]; omega⟩
    | exact tri_empty0 ‹_› fun a => ⟨‹_›, by simp only [PT.size, sizes, slack, gain]; omega⟩
    | (refine tri_lg hg _ ‹_› (fun _ => by trivial) rfl (by omega) (by simp only [rank]; omega) fun a l ts' h1 h2 => ?_; simp only [PT.size] at h2)
    | exact (ih _ _ ‹_› (by omega) (by omega) (by omega)).mono fun l ts' q => ⟨q.1, by have := q.2; (try simp only [sizes_snoc, sizes_append, PT.size, sizes] at this ⊢); omega⟩
    | exact (ih _ _ _ ‹_› (by omega) (by omega) (by omega)).mono fun l ts' q => ⟨q.1, by have := q.2; (try simp only [sizes_snoc, sizes_append, PT.size, sizes] at this ⊢); omega⟩
    | refine tri_calls hg ‹_› (by omega) (by omega) fun b => ?_) <;> try simp only [nrmP])
set_option maxHeartbeats 4000000 in
theorem p_decl (t : Tk) (h : GoodT ts) (hK : tw ts < K) (hn : 32 * tw ts + 22 < n + 1) : Tri (declM K g t) ts (fun d ts' => GoodT ts' ∧ tw ts' ≤ tw ts ∧ ∀ x, d = some x → x.size + 16 * tw ts' ≤ 16 * tw ts) := by
 unfold declM
 try simp only [nrmP]
 repeat' ((first
  | with_reducible exact tri_fail ‹_›
  | with_reducible refine tri_now ‹_› fun t l ht => ?_
  | with_reducible refine tri_take ‹_› (fun ts' h1 h2 => ?_) ?_
  | with_reducible refine tri_must ‹_› fun ts' h1 h2 => ?_
  | with_reducible refine tri_name ‹_› fun s ts' h1 h2 => ?_
  | with_reducible refine tri_is ‹_› (fun t l h1 h2 => ?_) ?_
  | with_reducible refine tri_then ‹_› fun t => ?_
  | with_reducible refine tri_closed ‹_› fun t => ?_
  | with_reducible refine tri_none ‹_› fun a => ?_
  | with_reducible refine tri_empty ‹_› fun a => ?_
  | with_reducible refine tri_angle ‹_› fun ts' h1 h2 => ?_
  | refine tri_nextH ‹_› ‹_› (by first | assumption | exact says_kind ‹_› | (intro h9; simp [h9] at *; done)) fun ts' h1 h2 => ?_
  | with_reducible refine tri_next ‹_› fun t l ts' e h1 h2 h3 => ?_
  | with_reducible refine tri_vars ‹_› (by omega) fun x ts' h1 h2 => ?_
  | with_reducible refine tri_bifb (fun hb => ?_) (fun hb => ?_)
  | with_reducible refine tri_bif (fun hb => ?_) (fun hb => ?_)
  | (refine tri_g hg _ ‹_› (by first | trivial | (show (_ : Nat) ≤ 10; omega)) (by omega) (by simp only [rank]; omega) fun x ts' h1 h2 h3 => ?_; simp only [slack, gain] at h2)
  | exact tri_pure ⟨‹_›, by omega, fun x e => by injection e with e; subst e; (try simp only [PT.size, sizes]); omega⟩
  | exact tri_pure ⟨‹_›, by omega, fun x e => by cases e⟩) <;> try simp only [nrmP])
theorem l_again (i : Nat) (hi : i ≤ 9) (sl : List Bs) (a : Int) : ∀ k x ts, GoodT ts → tw ts < K → tw ts < k → 32 * tw ts + 23 < n → Tri (againM g i sl a k x) ts (fun y ts' => GoodT ts' ∧ y.size + 16 * tw ts' ≤ x.size + 16 * tw ts) := by
 intro k
 induction k with
 | zero => intro x ts _ _ h; omega
 | succ k ih =>
  intro x ts h hK hk hn
  unfold againM
  try simp only [nrmP]
  have h0 : Tri (pure x) ts (fun y ts' => GoodT ts' ∧ y.size + 16 * tw ts' ≤ x.size + 16 * tw ts) := tri_pure ⟨h, by omega⟩
  refine tri_takeOne h (fun s ts' h1 h2 => ?_) h0 sl
  dsimp only
  repeat' ((first
   | with_reducible exact tri_fail ‹_›
   | with_reducible refine tri_now ‹_› fun t l ht => ?_
   | with_reducible refine tri_take ‹_› (fun ts' h1 h2 => ?_) ?_
   | with_reducible refine tri_is ‹_› (fun t l h1 h2 => ?_) ?_
   | with_reducible refine tri_none ‹_› fun a => ?_
   | with_reducible refine tri_empty ‹_› fun a => ?_
   | with_reducible refine tri_bifb (fun hb => ?_) (fun hb => ?_)
   | with_reducible refine tri_bif (fun hb => ?_) (fun hb => ?_)
   | exact tri_pure ⟨‹_›, by (try simp only [PT.size, sizes, sizes_snoc, sizes_append, moved_size, slack, gain]); first | omega | (simp only [PT.size, sizes] at *; omega)⟩
   | (refine tri_g hg _ ‹_› (by first | trivial | (show (_ : Nat) ≤ 10; omega)) (by omega) (by simp only [rank]; omega) fun x ts' h1 h2 h3 => ?_; simp only [slack, gain] at h2)
   | exact (ih _ _ ‹_› (by omega) (by omega) (by omega)).mono fun l ts' q => ⟨q.1, by have := q.2; simp only [PT.size, sizes] at this ⊢; omega⟩) <;> try simp only [nrmP])
theorem p_level (i : Nat) (hi : i ≤ 10) (h : GoodT ts) (hK : tw ts < K) (hn : 32 * tw ts + (16 - i) < n + 1) : Tri (levelM K g i) ts (post (.level i) ts) := by
 have key : ∀ j sl, i = j → j ≤ 9 → sgn j = some sl → Tri (levelM K g i) ts (post (.level i) ts) := fun j sl e hj hs => by
  subst e
  unfold levelM
  rw [hs]
  dsimp only
  refine tri_now h fun t l ht => ?_
  refine tri_g hg (.level (i + 1)) h (show i + 1 ≤ 10 by omega) hK (by simp only [rank]; omega) fun x ts' h1 h2 h3 => ?_
  simp only [slack, gain] at h2
  exact (l_again hg i (by omega) sl t.pos K x ts' h1 (by omega) (by omega) (by omega)).mono fun y ts2 q => ⟨q.1, by have := q.2; simp only [slack, gain]; omega⟩
 match i, hi with
 | 0, _ => exact key 0 _ rfl (by decide) rfl
 | 1, _ => exact key 1 _ rfl (by decide) rfl
 | 2, _ => exact key 2 _ rfl (by decide) rfl
 | 3, _ => exact key 3 _ rfl (by decide) rfl
 | 4, _ => exact key 4 _ rfl (by decide) rfl
 | 5, _ => exact key 5 _ rfl (by decide) rfl
 | 6, _ => exact key 6 _ rfl (by decide) rfl
 | 7, _ => exact key 7 _ rfl (by decide) rfl
 | 8, _ => exact key 8 _ rfl (by decide) rfl
 | 9, _ => exact key 9 _ rfl (by decide) rfl
 | 10, _ =>
  show Tri (g .unary) ts _
  exact tri_g0 hg .unary h trivial hK (by simp only [rank]; omega) fun x ts' h1 h2 h3 => ⟨h1, by simp only [slack, gain] at h2 ⊢; omega⟩
theorem tri_may {e : Bs} {k : PT → M β} (h : GoodT ts) (hK : tw ts < K) (hn : 32 * tw ts + 23 < n) (hc : ∀ x ts', GoodT ts' → x.size + 16 * tw ts' ≤ 16 * tw ts → Tri (k x) ts' Q) : Tri (mayM g e >>= k) ts Q := by
 unfold mayM
 simp only [nrmP]
 refine tri_none h fun a => ?_
 refine tri_is h (fun t l h1 h2 => ?_) ?_ <;> simp only [nrmP]
 · exact tri_must h fun ts' h1 h2 => hc _ _ h1 (by simp only [PT.size, sizes]; omega)
 exact tri_g hg .expr h trivial hK (by simp only [rank]; omega) fun x ts' h1 h2 h3 => tri_must h1 fun ts2 h4 h5 => hc _ _ h4 (by simp only [slack, gain] at h2; omega)
theorem p_param (m : Bool) (h : GoodT ts) (hK : tw ts < K) (hn : 32 * tw ts + 1 < n + 1) : Tri (paramM g m) ts (fun x ts' => GoodT ts' ∧ x.size + 16 * tw ts' ≤ 16 * tw ts) := by
 unfold paramM
 try simp only [nrmP]
 repeat' ((first
  | with_reducible exact tri_fail ‹_›
  | with_reducible refine tri_now ‹_› fun t l ht => ?_
  | with_reducible refine tri_take ‹_› (fun ts' h1 h2 => ?_) ?_
  | with_reducible refine tri_name ‹_› fun s ts' h1 h2 => ?_
  | with_reducible refine tri_none ‹_› fun a => ?_
  | with_reducible refine tri_empty ‹_› fun a => ?_
  | with_reducible refine tri_bifb (fun hb => ?_) (fun hb => ?_)
  | with_reducible refine tri_bif (fun hb => ?_) (fun hb => ?_)
  | exact tri_pure ⟨‹_›, by (try simp only [PT.size, sizes, sizes_snoc, sizes_append, moved_size, slack, gain]); first | omega | (simp only [PT.size, sizes] at *; omega)⟩
  | (refine tri_g hg _ ‹_› (by first | trivial | (show (_ : Nat) ≤ 10; omega)) (by omega) (by simp only [rank]; omega) fun x ts' h1 h2 h3 => ?_; simp only [slack, gain] at h2)) <;> try simp only [nrmP])
theorem l_ns : ∀ (u : Unit) k acc ts, GoodT ts → tw ts < K → tw ts < k → 32 * tw ts + 23 < n → Tri (nsM K g k acc) ts (fun l ts' => GoodT ts' ∧ sizes l + 16 * tw ts' ≤ sizes acc + 16 * tw ts) := by
 intro u k
 induction k with
 | zero => intro acc ts _ _ h; omega
 | succ k ih =>
  intro acc ts h hK hk hn
  unfold nsM
  try simp only [nrmP]
  repeat' ((first
   | with_reducible exact tri_fail ‹_›
   | with_reducible refine tri_now ‹_› fun t l ht => ?_
   | with_reducible refine tri_take ‹_› (fun ts' h1 h2 => ?_) ?_
   | with_reducible refine tri_is ‹_› (fun t l h1 h2 => ?_) ?_
   | with_reducible refine tri_none ‹_› fun a => ?_
   | with_reducible refine tri_empty ‹_› fun a => ?_
   | with_reducible refine tri_bifb (fun hb => ?_) (fun hb => ?_)
   | with_reducible refine tri_bif (fun hb => ?_) (fun hb => ?_)
   | exact tri_pure ⟨‹_›, by (try simp only [PT.size, sizes, sizes_snoc, sizes_append, moved_size, slack, gain]); first | omega | (simp only [PT.size, sizes] at *; omega)⟩
   | (refine tri_g hg _ ‹_› (by first | trivial | (show (_ : Nat) ≤ 10; omega)) (by omega) (by simp only [rank]; omega) fun x ts' h1 h2 h3 => ?_; simp only [slack, gain] at h2)
   | exact (ih _ _ ‹_› (by omega) (by omega) (by omega)).mono fun l ts' q => ⟨q.1, by have := q.2; (try simp only [sizes_snoc, sizes_append, PT.size, sizes] at this ⊢); omega⟩) <;> try simp only [nrmP])
  all_goals
   refine Tri.bind ((p_decl hg _ ‹_› (by omega) (by omega)).mono fun d ts' q => ?_)
   obtain ⟨q1, q2, q3⟩ := q
   cases d with
   | none => exact tri_fail q1
   | some x =>
    have q4 := q3 x rfl
    dsimp only
    refine tri_bif (fun _ => tri_fail q1) fun _ => ?_
    exact (ih _ _ q1 (by omega) (by omega) (by omega)).mono fun l ts' q => ⟨q.1, by have := q.2; (try simp only [sizes_snoc, sizes_append, PT.size, sizes] at this ⊢); omega⟩
set_option maxHeartbeats 40000000 in
theorem p_some : (∀ (ts : List Tk), GoodT ts → tw ts < K → 32 * tw ts + 19 < n + 1 → Tri (exprM g) ts (post (.expr) ts)) ∧
 (∀ (a : Int) (ts : List Tk), GoodT ts → tw ts < K → 32 * tw ts + 1 < n + 1 → Tri (arrowedM K g a) ts (post (.arrowed a) ts)) ∧
 (∀ (ts : List Tk), GoodT ts → tw ts < K → 32 * tw ts + 18 < n + 1 → Tri (condM g) ts (post (.cond) ts)) ∧
 (∀ (ts : List Tk), GoodT ts → tw ts < K → 32 * tw ts + 5 < n + 1 → Tri (unaryM g) ts (post (.unary) ts)) ∧
 (∀ (ts : List Tk), GoodT ts → tw ts < K → 32 * tw ts + 1 < n + 1 → Tri (givenM K g) ts (post (.given) ts)) ∧
 (∀ (ts : List Tk), GoodT ts → tw ts < K → 32 * tw ts + 4 < n + 1 → Tri (postfM K g) ts (post (.postf) ts)) ∧
 (∀ (ts : List Tk), GoodT ts → tw ts < K → 32 * tw ts + 3 < n + 1 → Tri (primaryM K g) ts (post (.primary) ts)) ∧
 (∀ (t : Tk) (ts : List Tk), GoodT ts → ∀ t1 l1, ts = t1 :: l1 → t1.kind ≠ 10 → tw ts < K → 32 * tw ts + 1 < n + 1 → Tri (wordedM K g t) ts (post (.worded t) ts)) ∧
 (∀ (ts : List Tk), GoodT ts → ∀ t1 l1, ts = t1 :: l1 → t1.kind ≠ 10 → tw ts < K → 32 * tw ts + 1 < n + 1 → Tri (templateM K g) ts (post (.template) ts)) ∧
 (∀ (ts : List Tk), GoodT ts → tw ts < K → 32 * tw ts + 1 < n + 1 → Tri (objectM K g) ts (post (.object) ts)) ∧
 (∀ (ts : List Tk), GoodT ts → tw ts < K → 32 * tw ts + 1 < n + 1 → Tri (blockM K g) ts (post (.block) ts)) ∧
 (∀ (ts : List Tk), GoodT ts → tw ts < K → 32 * tw ts + 1 < n + 1 → Tri (roundM g) ts (post (.round) ts)) ∧
 (∀ (kk a : Int) (m : Bool) (ts : List Tk), GoodT ts → tw ts < K → 32 * tw ts + 20 < n + 1 → Tri (endedM g kk a m) ts (post (.ended kk a m) ts)) ∧
 (∀ (ts : List Tk), GoodT ts → tw ts < K → 32 * tw ts + 1 < n + 1 → Tri (branchM g) ts (post (.branch) ts)) ∧
 (∀ (a : Int) (ts : List Tk), GoodT ts → tw ts < K → 32 * tw ts + 1 < n + 1 → Tri (loopM g a) ts (post (.loop a) ts)) ∧
 (∀ (m a : Int) (ts : List Tk), GoodT ts → tw ts < K → 32 * tw ts + 1 < n + 1 → Tri (variablM g m a) ts (post (.variabl m a) ts)) ∧
 (∀ (a : Int) (ts : List Tk), GoodT ts → tw ts < K → 32 * tw ts + 2 < n + 1 → Tri (triM g a) ts (post (.tri a) ts)) ∧
 (∀ (kk a : Int) (ts : List Tk), GoodT ts → tw ts < K → 32 * tw ts + 1 < n + 1 → Tri (functioM K g kk a) ts (post (.functio kk a) ts)) ∧
 (∀ (a : Int) (ts : List Tk), GoodT ts → tw ts < K → 32 * tw ts + 1 < n + 1 → Tri (clasM K g a) ts (post (.clas a) ts)) ∧
 (∀ (ts : List Tk), GoodT ts → tw ts < K → 32 * tw ts + 2 < n + 1 → Tri (partM g) ts (post (.part) ts)) ∧
 (∀ (m a : Int) (ts : List Tk), GoodT ts → tw ts < K → 32 * tw ts + 1 < n + 1 → Tri (enuM K g m a) ts (post (.enu m a) ts)) ∧
 (∀ (a : Int) (ts : List Tk), GoodT ts → tw ts < K → 32 * tw ts + 1 < n + 1 → Tri (namespacM K g a) ts (post (.namespac a) ts)) ∧
 (∀ (ts : List Tk), GoodT ts → tw ts < K → 32 * tw ts + 4 < n + 1 → Tri (rowsM K g) ts (post (.rows) ts)) ∧
 (∀ (ts : List Tk), GoodT ts → tw ts < K → 32 * tw ts + 3 < n + 1 → Tri (plainM g) ts (post (.plain) ts)) ∧
 (∀ (ts : List Tk), GoodT ts → tw ts < K → 32 * tw ts + 1 < n + 1 → Tri (arrowTypeM g) ts (post (.arrowType) ts)) ∧
 (∀ (ts : List Tk), GoodT ts → tw ts < K → 32 * tw ts + 1 < n + 1 → Tri (refM K g) ts (post (.ref) ts)) ∧
 (∀ (w : Bs) (ts : List Tk), GoodT ts → tw ts < K → 32 * tw ts + 1 < n + 1 → Tri (refsM K g w) ts (post (.refs w) ts)) ∧
 (∀ (ts : List Tk), GoodT ts → tw ts < K → 32 * tw ts + 1 < n + 1 → Tri (argsM K g) ts (post (.args) ts)) ∧
 (∀ (ts : List Tk), GoodT ts → tw ts < K → 32 * tw ts + 1 < n + 1 → Tri (optionalM g) ts (post (.optional) ts)) ∧
 (∀ (ts : List Tk), GoodT ts → tw ts < K → 32 * tw ts + 1 < n + 1 → Tri (objectTypeM K g) ts (post (.objectType) ts)) ∧
 (∀ (ts : List Tk), GoodT ts → tw ts < K → 32 * tw ts + 1 < n + 1 → Tri (pieceM g) ts (post (.piece) ts)) ∧
 (∀ (m : Bool) (ts : List Tk), GoodT ts → tw ts < K → 32 * tw ts + 1 < n + 1 → Tri (paramsM K g m) ts (post (.params m) ts)) ∧
 (∀ (t : Tk) (ts : List Tk), GoodT ts → tw ts < K → 32 * tw ts + 22 < n + 1 → Tri (restM g t) ts (post (.statement) ts)) := by
 refine ⟨?_, ?_, ?_, ?_, ?_, ?_, ?_, ?_, ?_, ?_, ?_, ?_, ?_, ?_, ?_, ?_, ?_, ?_, ?_, ?_, ?_, ?_, ?_, ?_, ?_, ?_, ?_, ?_, ?_, ?_, ?_, ?_, ?_⟩
 all_goals intros
 all_goals first | unfold exprM arrowM | unfold arrowedM | unfold condM | unfold unaryM | unfold givenM | unfold postfM | unfold primaryM | unfold wordedM | unfold templateM | unfold objectM | unfold blockM | unfold roundM | unfold endedM | unfold branchM | unfold loopM | unfold variablM | unfold triM | unfold functioM | unfold clasM | unfold partM | unfold enuM | unfold namespacM | unfold rowsM | unfold plainM | unfold arrowTypeM | unfold refM | unfold refsM | unfold argsM | unfold optionalM | unfold objectTypeM | unfold pieceM | unfold paramsM | unfold restM
 all_goals try simp only [nrmP]
 repeat' ((first
  | with_reducible exact tri_fail ‹_›
  | with_reducible refine tri_now ‹_› fun t l ht => ?_
  | with_reducible refine tri_take ‹_› (fun ts' h1 h2 => ?_) ?_
  | with_reducible refine tri_must ‹_› fun ts' h1 h2 => ?_
  | with_reducible refine tri_name ‹_› fun s ts' h1 h2 => ?_
  | with_reducible refine tri_is ‹_› (fun t l h1 h2 => ?_) ?_
  | with_reducible refine tri_then ‹_› fun t => ?_
  | with_reducible refine tri_closed ‹_› fun t => ?_
  | with_reducible refine tri_none ‹_› fun a => ?_
  | with_reducible refine tri_empty ‹_› fun a => ?_
  | with_reducible refine tri_angle ‹_› fun ts' h1 h2 => ?_
  | refine tri_nextH ‹_› ‹_› (by first | assumption | exact says_kind ‹_› | (intro h9; simp [h9] at *; done)) fun ts' h1 h2 => ?_
  | with_reducible refine tri_next ‹_› fun t l ts' e h1 h2 h3 => ?_
  | with_reducible refine tri_vars ‹_› (by omega) fun x ts' h1 h2 => ?_
  | with_reducible refine tri_bifb (fun hb => ?_) (fun hb => ?_)
  | with_reducible refine tri_bif (fun hb => ?_) (fun hb => ?_)
  | exact tri_pure ⟨‹_›, by (try simp only [PT.size, sizes, sizes_snoc, sizes_append, moved_size, slack, gain]); first | omega | (simp only [PT.size, sizes] at *; omega)⟩
  | (refine tri_g hg _ ‹_› (by first | trivial | (show (_ : Nat) ≤ 10; omega)) (by omega) (by simp only [rank]; omega) fun x ts' h1 h2 h3 => ?_; simp only [slack, gain] at h2)
  | (refine tri_g0 hg _ ‹_› (by first | trivial | (show (_ : Nat) ≤ 10; omega)) (by omega) (by simp only [rank]; omega) fun x ts' h1 h2 h3 => ⟨h1, ?_⟩; simp only [slack, gain] at h2 ⊢; omega)
  | exact tri_none0 ‹_› fun a => ⟨‹_›, by simp only [PT.size, sizes, slack, gain]; omega⟩
  | exact tri_empty0 ‹_› fun a => ⟨‹_›, by simp only [PT.size, sizes, slack, gain]; omega⟩
  | (refine tri_lg hg _ ‹_› (fun _ => by trivial) rfl (by omega) (by simp only [rank]; omega) fun a l ts' h1 h2 => ?_; simp only [PT.size] at h2)
  | exact ((l_all hg).1 _ _ _ _ ‹_› (by omega) (by omega) (by omega)).mono fun l ts' q => ⟨q.1, by have := q.2; simp only [slack, gain]; omega⟩
  | exact ((l_all hg).2.2.1 _ _ _ _ ‹_› (by omega) (by omega) (by omega)).mono fun l ts' q => ⟨q.1, by have := q.2; simp only [slack, gain]; omega⟩
  | (refine Tri.bind (((l_all hg).2.1 _ _ _ _ ‹_› (by omega) (by omega) (by omega)).mono fun x ts' q => ?_); obtain ⟨q1, q2⟩ := q; try simp only [PT.size, sizes] at q2)
  | (refine Tri.bind (((l_all hg).2.2.2.1 () _ _ _ _ ‹_› (by omega) (by omega) (by omega)).mono fun x ts' q => ?_); obtain ⟨q1, q2⟩ := q; try simp only [PT.size, sizes] at q2)
  | (refine Tri.bind (((l_all hg).2.2.2.2.1 () _ _ _ ‹_› (by omega) (by omega) (by omega)).mono fun x ts' q => ?_); obtain ⟨q1, q2⟩ := q; try simp only [PT.size, sizes] at q2)
  | (refine Tri.bind (((l_all hg).2.2.2.2.2.1 () _ _ _ ‹_› (by omega) (by omega) (by omega)).mono fun x ts' q => ?_); obtain ⟨q1, q2⟩ := q; try simp only [PT.size, sizes] at q2)
  | (refine Tri.bind (((l_all hg).2.2.2.2.2.2.2.1 () _ _ _ ‹_› (by omega) (by omega) (by omega)).mono fun x ts' q => ?_); obtain ⟨q1, q2⟩ := q; try simp only [PT.size, sizes] at q2)
  | (refine Tri.bind (((l_all hg).2.2.2.2.2.2.2.2.2.1 () _ _ _ ‹_› (by omega) (by omega) (by omega)).mono fun x ts' q => ?_); obtain ⟨q1, q2⟩ := q; try simp only [PT.size, sizes] at q2)
  | (refine Tri.bind (((l_all hg).2.2.2.2.2.2.2.2.2.2 () _ _ _ ‹_› (by omega) (by omega) (by omega)).mono fun x ts' q => ?_); obtain ⟨q1, q2⟩ := q; try simp only [PT.size, sizes] at q2)
  | (refine Tri.bind (((l_all hg).2.2.2.2.2.2.1 () _ _ _ _ ‹_› (by omega) (by omega) (by omega)).mono fun x ts' q => ?_); obtain ⟨q1, q2⟩ := q; try simp only [PT.size, sizes] at q2)
  | (refine Tri.bind ((l_ns hg () _ _ _ ‹_› (by omega) (by omega) (by omega)).mono fun x ts' q => ?_); obtain ⟨q1, q2⟩ := q; try simp only [PT.size, sizes] at q2)
  | exact absurd ‹((1 : Int) == 1 && (1 : Int) == 1) = false› (by decide)
  | (refine tri_may hg ‹_› (by omega) (by omega) fun x ts' h1 h2 => ?_)
  | (rw [← M.bpure (listM K (paramM g _))]; refine tri_list (tw _) (fun ts h hT => p_param hg _ h (by omega) (by omega)) ‹_› (Nat.le_refl _) (by omega) fun a l ts' h1 h2 => tri_pure ⟨h1, by simp only [slack, gain]; omega⟩)
  | (refine tri_g0 hg .template ‹_› ⟨_, _, ‹_ = _ :: _›, fun h9 => by simp [h9] at *⟩ (by omega) (by simp only [rank]; omega) fun x ts' h1 h2 h3 => ⟨h1, ?_⟩; simp only [slack, gain] at h2 ⊢; omega)
  | (refine tri_g0 hg (.worded _) ‹_› ⟨_, _, ‹_ = _ :: _›, fun h9 => by simp [h9] at *⟩ (by omega) (by simp only [rank]; omega) fun x ts' h1 h2 h3 => ⟨h1, ?_⟩; simp only [slack, gain] at h2 ⊢; omega)) <;> try simp only [nrmP])
theorem p_statement (h : GoodT ts) (hK : tw ts < K) (hn : 32 * tw ts + 22 < n + 1) : Tri (statementM K g) ts (post .statement ts) := by
 unfold statementM
 refine tri_now h fun t l ht => tri_bif (fun _ => ?_) fun _ => (p_some hg).2.2.2.2.2.2.2.2.2.2.2.2.2.2.2.2.2.2.2.2.2.2.2.2.2.2.2.2.2.2.2.2 t ts h hK hn
 refine Tri.bind ((p_decl hg _ h hK hn).mono fun d ts' q => ?_)
 obtain ⟨q1, q2, q3⟩ := q
 cases d with
 | none => exact ((p_some hg).2.2.2.2.2.2.2.2.2.2.2.2.2.2.2.2.2.2.2.2.2.2.2.2.2.2.2.2.2.2.2.2 _ _ q1 (by omega) (by omega)).mono fun x ts2 q => ⟨q.1, by have := q.2; simp only [slack, gain] at this ⊢; omega⟩
 | some x => exact tri_pure ⟨q1, by have := q3 x rfl; simp only [slack, gain]; omega⟩
theorem p_typed (h : GoodT ts) (hK : tw ts < K) (hn : 32 * tw ts + 5 < n + 1) : Tri (typedM K g) ts (post .typed ts) := by
 unfold typedM
 try simp only [nrmP]
 repeat' ((first
  | with_reducible exact tri_fail ‹_›
  | with_reducible refine tri_now ‹_› fun t l ht => ?_
  | with_reducible refine tri_take ‹_› (fun ts' h1 h2 => ?_) ?_
  | with_reducible refine tri_is ‹_› (fun t l h1 h2 => ?_) ?_
  | with_reducible refine tri_none ‹_› fun a => ?_
  | with_reducible refine tri_empty ‹_› fun a => ?_
  | with_reducible refine tri_bifb (fun hb => ?_) (fun hb => ?_)
  | with_reducible refine tri_bif (fun hb => ?_) (fun hb => ?_)
  | exact tri_pure ⟨‹_›, by (try simp only [PT.size, sizes, sizes_snoc, sizes_append, moved_size, slack, gain]); first | omega | (simp only [PT.size, sizes] at *; omega)⟩
  | (refine tri_g hg _ ‹_› (by first | trivial | (show (_ : Nat) ≤ 10; omega)) (by omega) (by simp only [rank]; omega) fun x ts' h1 h2 h3 => ?_; simp only [slack, gain] at h2)
  | (refine tri_g0 hg _ ‹_› (by first | trivial | (show (_ : Nat) ≤ 10; omega)) (by omega) (by simp only [rank]; omega) fun x ts' h1 h2 h3 => ⟨h1, ?_⟩; simp only [slack, gain] at h2 ⊢; omega)) <;> try simp only [nrmP])
 all_goals
  rw [show K = (K - 1) + 1 by omega]
  unfold unionM
  simp only [nrmP]
  refine tri_takeT ‹_› ‹_› ‹_› fun ts' h1 h2 => ?_
  simp only [nrmP]
  refine tri_g hg .rows ‹_› trivial (by omega) (by simp only [rank]; omega) fun x ts' h1 h2 h3 => ?_
  simp only [slack, gain] at h2
  refine Tri.bind (((l_all hg).2.2.2.2.2.2.2.2.1 () _ _ _ ‹_› (by omega) (by omega) (by omega)).mono fun x ts' q => ?_)
  obtain ⟨q1, q2⟩ := q
  simp only [PT.size, sizes, sizes_snoc] at q2
  exact tri_pure ⟨q1, by simp only [PT.size, slack, gain, List.nil_append, List.cons_append, sizes] at *; omega⟩
end
end Go.Px

namespace Go.Px
theorem gh_gr (K : Nat) : ∀ n, GH K n (gr K n)
 | 0 => fun nt ts h hp hK hn => by omega
 | n + 1 => fun nt ts h hp hK hn => by
  have hg := gh_gr K n
  obtain ⟨c0, c1, c2, c3, c4, c5, c6, c7, c8, c9, c10, c11, c12, c13, c14, c15, c16, c17, c18, c19, c20, c21, c22, c23, c24, c25, c26, c27, c28, c29, c30, c31, c32⟩ := p_some hg
  show Tri (stepM K (gr K n) nt) ts _
  cases nt with
  | statement => exact p_statement hg h hK hn
  | typed => exact p_typed hg h hK hn
  | level i => exact p_level hg i hp h hK hn
  | expr => exact c0 ts h hK hn
  | arrowed a => exact c1 a ts h hK hn
  | cond => exact c2 ts h hK hn
  | unary => exact c3 ts h hK hn
  | given => exact c4 ts h hK hn
  | postf => exact c5 ts h hK hn
  | primary => exact c6 ts h hK hn
  | worded t => obtain ⟨t1, l1, e1, k1⟩ := hp; exact c7 t ts h t1 l1 e1 k1 hK hn
  | template => obtain ⟨t1, l1, e1, k1⟩ := hp; exact c8 ts h t1 l1 e1 k1 hK hn
  | object => exact c9 ts h hK hn
  | block => exact c10 ts h hK hn
  | round => exact c11 ts h hK hn
  | ended k a m => exact c12 k a m ts h hK hn
  | branch => exact c13 ts h hK hn
  | loop a => exact c14 a ts h hK hn
  | variabl m a => exact c15 m a ts h hK hn
  | tri a => exact c16 a ts h hK hn
  | functio k a => exact c17 k a ts h hK hn
  | clas a => exact c18 a ts h hK hn
  | part => exact c19 ts h hK hn
  | enu m a => exact c20 m a ts h hK hn
  | namespac a => exact c21 a ts h hK hn
  | rows => exact c22 ts h hK hn
  | plain => exact c23 ts h hK hn
  | arrowType => exact c24 ts h hK hn
  | ref => exact c25 ts h hK hn
  | refs w => exact c26 w ts h hK hn
  | args => exact c27 ts h hK hn
  | optional => exact c28 ts h hK hn
  | objectType => exact c29 ts h hK hn
  | piece => exact c30 ts h hK hn
  | params m => exact c31 m ts h hK hn
theorem l_prog {K n : Nat} {g : NT → M PT} (hg : GH K n g) : ∀ k acc ts, GoodT ts → tw ts < K → tw ts < k → 32 * tw ts + 23 < n → Tri (progM g k acc) ts (fun l ts' => GoodT ts' ∧ sizes l + 16 * tw ts' ≤ sizes acc + 16 * tw ts) := by
 intro k
 induction k with
 | zero => intro acc ts _ _ h; omega
 | succ k ih =>
  intro acc ts h hK hk hn
  unfold progM
  refine tri_now h fun t l ht => tri_bif (fun _ => ?_) fun _ => tri_pure ⟨h, by omega⟩
  refine tri_g hg .statement h trivial hK (by simp only [rank]; omega) fun x ts' h1 h2 h3 => ?_
  simp only [slack, gain] at h2
  exact (ih _ _ h1 (by omega) (by omega) (by omega)).mono fun l ts' q => ⟨q.1, by have := q.2; simp only [sizes_snoc] at this ⊢; omega⟩
theorem run_total {K N : Nat} {whole : Nat} {ts : List Tk} (h : GoodT ts) (hK : tw ts < K) (hN : 32 * tw ts + 23 < N) : Tri (runM K (gr K N) whole) ts fun x _ => x.size ≤ 16 * tw ts + 1 := by
 have hg := gh_gr K N
 unfold runM
 have fin : ∀ {x : PT} {ts'}, GoodT ts' → x.size ≤ 16 * tw ts + 1 → Tri (nowM >>= fun t => bif t.kind != 10 then failM else pure x) ts' fun x _ => x.size ≤ 16 * tw ts + 1 := fun h1 h2 =>
  tri_now h1 fun t l ht => tri_bif (fun _ => tri_fail h1) fun _ => tri_pure h2
 refine tri_bifb (fun _ => ?_) fun _ => tri_bifb (fun _ => ?_) fun _ => ?_
 · rw [M.assoc]
   refine Tri.bind ((l_prog hg K [] ts h hK hK hN).mono fun l ts' q => ?_)
   rw [M.pureb]
   exact fin q.1 (by have := q.2; simp only [sizes, PT.size] at this ⊢; omega)
 · exact tri_g hg .expr h trivial hK (by simp only [rank]; omega) fun x ts' h1 h2 h3 => fin h1 (by simp only [slack, gain] at h2; omega)
 exact tri_g hg .typed h trivial hK (by simp only [rank]; omega) fun x ts' h1 h2 h3 => fin h1 (by simp only [slack, gain] at h2; omega)
end Go.Px

namespace Go.Proofs
open Go.Px
theorem blanks_tot {l : Bs} : ∀ (k i : Nat), l.length < k + i → i ≤ l.length → ∃ r, blanksK l k i = some r
 | 0, i, h, hi => by omega
 | k + 1, i, h, hi => by
  rw [blanksK]
  cases hc : l[i]? with
  | none => exact ⟨_, rfl⟩
  | some c =>
   have hil := (List.getElem?_eq_some_iff.1 hc).1
   dsimp only
   cases g1 : blankB c with
   | true => exact blanks_tot k (i + 1) (by omega) (by omega)
   | false =>
    cases g2 : hasB l i [47, 47] with
    | true =>
     have h1 := runOf_le (fun c => c != 10) l i hi
     have h2 : 1 ≤ runOf (fun c => c != 10) l i := by
      refine runOf_pos hc ?_
      have h3 : (l.drop i).take 2 = [47, 47] := by unfold hasB at g2; simpa using g2
      rw [List.drop_eq_getElem_cons hil, List.take_succ_cons] at h3
      have h4 : l[i] = 47 := (List.cons.inj h3).1
      have h5 : l[i] = c := (List.getElem?_eq_some_iff.1 hc).2
      rw [← h5, h4]; decide
     exact blanks_tot k _ (by omega) h1
    | false =>
     cases g3 : hasB l i [47, 42] with
     | false => exact ⟨_, rfl⟩
     | true =>
      dsimp only [cond_true, cond_false]
      have hl2 := hasB_len g3 (by decide)
      simp only [List.length_cons, List.length_nil] at hl2
      cases g4 : decide (Lib.index (l.drop (i + 2)) [42, 47] < 0) with
      | true => exact ⟨_, rfl⟩
      | false =>
       have h0 : ¬ Lib.index (l.drop (i + 2)) [42, 47] < 0 := by simpa using g4
       have hrm := Lib.index_room (l.drop (i + 2)) [42, 47] (by omega)
       simp only [List.length_drop, List.length_cons, List.length_nil] at hrm
       exact blanks_tot k _ (by omega) (by omega)
theorem quoted_tot {l : Bs} {at_ : Nat} {q : UInt8} : ∀ (k i : Nat) (out : Bs), l.length < k + i → i ≤ l.length → ∃ t, quotedK l at_ q k i out = some t
 | 0, i, out, h, hi => by omega
 | k + 1, i, out, h, hi => by
  rw [quotedK]
  cases hc : l[i]? with
  | none => exact ⟨_, rfl⟩
  | some c =>
   dsimp only
   cases g1 : (c == q) with
   | true => exact ⟨_, rfl⟩
   | false =>
    cases g2 : (c == 10 || c == 13) with
    | true => exact ⟨_, rfl⟩
    | false =>
     dsimp only [cond_true, cond_false]
     cases hr : rune1B l i with
     | none => exact ⟨_, rfl⟩
     | some p =>
      have hb := rune1B_ok hr
      exact quoted_tot k _ _ (by omega) (by omega)
theorem piece_tot {l : Bs} {at_ : Nat} {ends goes : Int} : ∀ (k i : Nat) (out : Bs), l.length < k + i → i ≤ l.length → ∃ t, pieceK l at_ ends goes k i out = some t
 | 0, i, out, h, hi => by omega
 | k + 1, i, out, h, hi => by
  rw [pieceK]
  cases hc : l[i]? with
  | none => exact ⟨_, rfl⟩
  | some c =>
   dsimp only
   cases g1 : (c == 96) with
   | true => exact ⟨_, rfl⟩
   | false =>
    cases g2 : hasB l i [36, 123] with
    | true => exact ⟨_, rfl⟩
    | false =>
     dsimp only [cond_true, cond_false]
     cases hr : rune1B l i with
     | none => exact ⟨_, rfl⟩
     | some p =>
      have hb := rune1B_ok hr
      exact piece_tot k _ _ (by omega) (by omega)
theorem token_tot {l : Bs} {K j : Nat} {op : List Bool} (hK : l.length < K) (hj : j < l.length) : ∃ r, tokenK l K j op = some r := by
 rw [tokenK, List.getElem?_eq_getElem hj]
 dsimp only
 cases letterB l[j] with
 | true => exact ⟨_, rfl⟩
 | false =>
 cases digitB l[j] with
 | true => exact ⟨_, rfl⟩
 | false =>
 cases (l[j] == 34 || l[j] == 39) with
 | true =>
  obtain ⟨t, h⟩ := quoted_tot (l := l) (at_ := j) (q := l[j]) K (j + 1) [] (by omega) (by omega)
  exact ⟨_, by dsimp only [cond_true, cond_false]; rw [h]; rfl⟩
 | false =>
 cases (l[j] == 96) with
 | true =>
  obtain ⟨t, h⟩ := piece_tot (l := l) (at_ := j) (ends := 5) (goes := 6) K (j + 1) [] (by omega) (by omega)
  exact ⟨_, by dsimp only [cond_true, cond_false]; rw [h]; rfl⟩
 | false =>
 cases (l[j] == 125 && op.head?.getD false) with
 | true =>
  obtain ⟨t, h⟩ := piece_tot (l := l) (at_ := j) (ends := 8) (goes := 7) K (j + 1) [] (by omega) (by omega)
  exact ⟨_, by dsimp only [cond_true, cond_false]; rw [h]; rfl⟩
 | false => exact ⟨_, rfl⟩
theorem next_tot {l : Bs} {K i : Nat} {op : List Bool} (hK : l.length < K) (hi : i ≤ l.length) : ∃ r, nextK l K i op = some r := by
 unfold nextK
 obtain ⟨⟨b, j⟩, h⟩ := blanks_tot (l := l) K i (by omega) hi
 have hle := blanksK_le h hi
 rw [h]
 cases b with
 | false => exact ⟨_, rfl⟩
 | true =>
  dsimp only
  cases g : decide (j = l.length) with
  | true => exact ⟨_, rfl⟩
  | false =>
   have g : j ≠ l.length := by simpa using g
   obtain ⟨⟨t, op'⟩, h⟩ := token_tot (op := op) hK (show j < l.length by omega)
   dsimp only [cond_false]
   rw [h]
   dsimp only
   cases (t.kind == 0) <;> exact ⟨_, rfl⟩
theorem tokens_tot {l : Bs} {K : Nat} (hK : l.length < K) : ∀ (k n i : Nat) (op : List Bool) (acc : List Tk), l.length < k + i → i ≤ l.length → ∃ r, tokensK l K k n i op acc = some r
 | 0, n, i, op, acc, h, hi => by omega
 | k + 1, n, i, op, acc, h, hi => by
  rw [tokensK]
  obtain ⟨r, hr⟩ := next_tot (op := op) hK hi
  rw [hr]
  cases r with
  | bad a => exact ⟨_, rfl⟩
  | tok t j op' =>
   have h9 := next_ok9 hr hi
   dsimp only
   cases (n == 8192 && t.kind != 10) with
   | true => exact ⟨_, rfl⟩
   | false =>
    cases g : (t.kind == 10) with
    | true => exact ⟨_, rfl⟩
    | false =>
     have g : t.kind ≠ 10 := by simpa using g
     exact tokens_tot hK k _ _ _ _ (by have := h9.2.2.1 g; omega) (by omega)
def okS (t : Tk) : Prop := (t.kind = 9 → ∀ c ∈ t.text.drop 1, c ∉ ([40, 41, 91, 93, 123, 125] : List UInt8)) ∧ (t.kind = 3 → t.text ≠ [] ∧ (∀ c ∈ t.text, 48 ≤ c.toNat ∧ c.toNat ≤ 57) ∧ t.text.length < 19)
def TF (l : Bs) (j : Nat) (t : Tk) : Prop := okS t ∧ t.pos = j ∧ ∃ e : Nat, t.en = e ∧ j < e ∧ e ≤ l.length ∧ t.text.length ≤ 4 * (e - j)
theorem okS_other {t : Tk} (h9 : t.kind ≠ 9) (h3 : t.kind ≠ 3) : okS t := ⟨fun h => absurd h h9, fun h => absurd h h3⟩
theorem quoted_f {l : Bs} {at_ : Nat} {q : UInt8} : ∀ {k i : Nat} {out : Bs} {t : Tk}, quotedK l at_ q k i out = some t → t.kind = 0 ∨ (t.kind = 4 ∧ t.pos = at_ ∧ ∃ e : Nat, t.en = e ∧ i < e ∧ e ≤ l.length ∧ t.text.length + 4 * i ≤ out.length + 4 * e)
 | 0, i, out, t, h => by cases h
 | k + 1, i, out, t, h => by
  rw [quotedK] at h
  cases hc : l[i]? with
  | none => rw [hc] at h; cases h; exact .inl rfl
  | some c =>
   have hil := (List.getElem?_eq_some_iff.1 hc).1
   rw [hc] at h
   dsimp only at h
   cases g1 : (c == q) <;> rw [g1] at h
   case true => cases h; exact .inr ⟨rfl, rfl, i + 1, by simp, by omega, by omega, by simp only; omega⟩
   cases g2 : (c == 10 || c == 13) <;> rw [g2] at h
   case true => cases h; exact .inl rfl
   simp only [cond_false] at h
   cases hr : rune1B l i with
   | none => rw [hr] at h; cases h; exact .inl rfl
   | some p =>
    rw [hr] at h
    have hb := rune1B_ok hr
    rcases quoted_f h with h | ⟨h1, h0, e, h2, h3, h4, h5⟩
    · exact .inl h
    rw [List.length_append] at h5
    exact .inr ⟨h1, h0, e, h2, by omega, h4, by omega⟩
theorem piece_f {l : Bs} {at_ : Nat} {ends goes : Int} : ∀ {k i : Nat} {out : Bs} {t : Tk}, pieceK l at_ ends goes k i out = some t → t.kind = 0 ∨ ((t.kind = ends ∨ t.kind = goes) ∧ t.pos = at_ ∧ ∃ e : Nat, t.en = e ∧ i < e ∧ e ≤ l.length ∧ t.text.length + 4 * i ≤ out.length + 4 * e)
 | 0, i, out, t, h => by cases h
 | k + 1, i, out, t, h => by
  rw [pieceK] at h
  cases hc : l[i]? with
  | none => rw [hc] at h; cases h; exact .inl rfl
  | some c =>
   have hil := (List.getElem?_eq_some_iff.1 hc).1
   rw [hc] at h
   dsimp only at h
   cases g1 : (c == 96) <;> rw [g1] at h
   case true => cases h; exact .inr ⟨.inl rfl, rfl, i + 1, by simp, by omega, by omega, by simp only; omega⟩
   cases g2 : hasB l i [36, 123] <;> rw [g2] at h
   case true =>
    have hl2 := hasB_len g2 (by decide)
    simp only [List.length_cons, List.length_nil] at hl2
    cases h; exact .inr ⟨.inr rfl, rfl, i + 2, by simp, by omega, by omega, by simp only; omega⟩
   simp only [cond_false] at h
   cases hr : rune1B l i with
   | none => rw [hr] at h; cases h; exact .inl rfl
   | some p =>
    rw [hr] at h
    have hb := rune1B_ok hr
    rcases piece_f h with h | ⟨h1, h0, e, h2, h3, h4, h5⟩
    · exact .inl h
    rw [List.length_append] at h5
    exact .inr ⟨h1, h0, e, h2, by omega, h4, by omega⟩
theorem contains_mem {s x : Bs} (h : Lib.contains s x = true) : ∀ c ∈ x, c ∈ s := by
 unfold Lib.contains at h
 simp only [decide_eq_true_eq] at h
 rcases Lib.index_spec s x with ⟨h1, _⟩ | ⟨i, h1, h2, h3, _⟩
 · omega
 intro c hc
 have h3 : x <+: s.drop i := by simpa [Lib.occAt] using h3
 rw [List.prefix_iff_eq_take.1 h3] at hc
 exact List.mem_of_mem_drop (List.mem_of_mem_take hc)
theorem sign_f (l : Bs) (i : Nat) (h : i < l.length) : ∀ ss : List (Nat × Bs), (∀ x ∈ ss, 1 ≤ x.1 ∧ x.1 ≤ 4 ∧ (x.1 = 1 ∨ ∀ c ∈ x.2, c ∉ ([40, 41, 91, 93, 123, 125] : List UInt8))) → (signL l i ss).kind = 0 ∨ ((signL l i ss).kind = 9 ∧ TF l i (signL l i ss))
 | [], _ => .inl rfl
 | (n, s) :: rest, hs => by
  have hn := hs (n, s) (by simp)
  rw [signL]
  cases g1 : decide (l.length - i < n) with
  | true => exact sign_f l i h rest fun x hx => hs x (by simp [hx])
  | false =>
   simp only [decide_eq_false_iff_not] at g1
   dsimp only [cond_false]
   cases g2 : ((cutT l 9 i (i + n)).text.any blankB || !Lib.contains s ([32] ++ (cutT l 9 i (i + n)).text ++ [32])) with
   | true => exact sign_f l i h rest fun x hx => hs x (by simp [hx])
   | false =>
    have hlen : (cutT l 9 i (i + n)).text.length = n := by show ((l.drop i).take (i + n - i)).length = n; rw [List.length_take, List.length_drop]; omega
    refine .inr ⟨rfl, ⟨fun _ => ?_, fun h => by cases h⟩, rfl, i + n, rfl, by omega, by omega, by show (cutT l 9 i (i + n)).text.length ≤ _; omega⟩
    show ∀ c ∈ (cutT l 9 i (i + n)).text.drop 1, _
    intro c hc
    rcases hn.2.2 with h1 | h1
    · have h1 : n = 1 := h1
      have : (cutT l 9 i (i + n)).text.drop 1 = [] := List.drop_eq_nil_of_le (by omega)
      rw [this] at hc; cases hc
    simp only [Bool.or_eq_false_iff, Bool.not_eq_false'] at g2
    exact h1 c (contains_mem g2.2 c (by simp [List.mem_of_mem_drop hc]))
def numMax : Int := 9007199254740992
theorem numV_ge : ∀ (s : Bs) (k : Nat) (v : Int), (∀ c ∈ s, 48 ≤ c.toNat) → min (10 ^ k : Int) numMax ≤ v → min (10 ^ (k + s.length) : Int) numMax ≤ s.foldl (fun v c => min (v * 10 + ((c.toNat : Int) - 48)) 9007199254740992) v
 | [], k, v, _, h => h
 | c :: s, k, v, hs, h => by
  have hc := hs c (by simp)
  have := numV_ge s (k + 1) (min (v * 10 + ((c.toNat : Int) - 48)) 9007199254740992) (fun d hd => hs d (by simp [hd])) (by
   unfold numMax at *
   rw [Int.pow_succ]
   omega)
  rw [List.foldl_cons, List.length_cons, show k + (s.length + 1) = k + 1 + s.length by omega]
  exact this
theorem num_short {c : UInt8} {s : Bs} (h0 : 49 ≤ c.toNat) (hs : ∀ d ∈ s, 48 ≤ d.toNat) (hv : numV (c :: s) ≤ 9007199254740991) : s.length < 16 := by
 unfold numV at hv
 rw [List.foldl_cons] at hv
 have := numV_ge s 0 (min (0 * 10 + ((c.toNat : Int) - 48)) 9007199254740992) hs (by unfold numMax; simp only [Int.pow_zero]; omega)
 unfold numMax at this
 rcases Nat.lt_or_ge s.length 16 with h | h
 · exact h
 have h2 : (10 ^ 16 : Int) ≤ 10 ^ (0 + s.length) := by
  rw [Nat.zero_add]
  have := Nat.pow_le_pow_right (n := 10) (by decide) h
  exact_mod_cast this
 omega
theorem takeWhile_all {p : UInt8 → Bool} : ∀ (s : Bs), ∀ c ∈ s.takeWhile p, p c = true
 | [], c, h => by cases h
 | a :: s, c, h => by
  rw [List.takeWhile_cons] at h
  split at h
  · rename_i ha
    rcases List.mem_cons.1 h with rfl | h
    · exact ha
    exact takeWhile_all s c h
  cases h
theorem take_runOf (p : UInt8 → Bool) (l : Bs) (i : Nat) : (l.drop i).take (runOf p l i) = (l.drop i).takeWhile p := by
 unfold runOf
 generalize l.drop i = s
 induction s with
 | nil => rfl
 | cons a s ih =>
  rw [List.takeWhile_cons]
  split
  · rw [List.length_cons, List.take_succ_cons, ih]
  rfl
theorem number_f {l : Bs} {j : Nat} {c : UInt8} (hc : l[j]? = some c) (g2 : digitB c = true) : (numberT l j).kind = 0 ∨ TF l j (numberT l j) := by
 have hjl := (List.getElem?_eq_some_iff.1 hc).1
 have hr := runOf_le digitB l j (by omega)
 have hp : 1 ≤ runOf digitB l j := runOf_pos hc g2
 unfold numberT
 cases h1 : decide (numV ((l.drop j).take (j + runOf digitB l j - j)) > 9007199254740991) <;> simp only [h1, cond_true, cond_false]
 case true => exact .inl rfl
 cases h2 : ((l[j]? == some 48) && decide (j + runOf digitB l j > j + 1)) <;> simp only [h2, cond_true, cond_false]
 case true => exact .inl rfl
 cases h3 : letterAt l (j + runOf digitB l j) <;> simp only [h3, cond_true, cond_false]
 case true => exact .inl rfl
 right
 have htx : (cutT l 3 j (j + runOf digitB l j)).text = (l.drop j).takeWhile digitB := by
  show (l.drop j).take (j + runOf digitB l j - j) = _
  rw [Nat.add_sub_cancel_left, take_runOf]
 have hln : (cutT l 3 j (j + runOf digitB l j)).text.length = runOf digitB l j := by rw [htx]; rfl
 have hall : ∀ d ∈ (l.drop j).takeWhile digitB, 48 ≤ d.toNat ∧ d.toNat ≤ 57 := fun d hd => by
  have := takeWhile_all _ d hd
  unfold digitB at this
  simpa using this
 refine ⟨⟨fun h => (by cases h), fun _ => ⟨fun h => ?_, by rw [htx]; exact hall, ?_⟩⟩, rfl, _, rfl, by omega, hr, by omega⟩
 · rw [h] at hln; simp at hln; omega
 rw [hln]
 rw [Nat.add_sub_cancel_left, take_runOf] at h1
 have e1 : (l.drop j).takeWhile digitB = c :: (l.drop (j + 1)).takeWhile digitB := by
  rw [List.drop_eq_getElem_cons hjl, (List.getElem?_eq_some_iff.1 hc).2, List.takeWhile_cons, if_pos g2]
 have e2 : runOf digitB l j = ((l.drop (j + 1)).takeWhile digitB).length + 1 := by unfold runOf; rw [e1]; rfl
 rw [e1] at h1 hall
 by_cases h4 : c.toNat = 48
 · have h5 : c = 48 := UInt8.toNat_inj.1 (by rw [h4]; rfl)
   rw [hc, h5] at h2
   simp only [BEq.rfl, Bool.true_and, decide_eq_false_iff_not] at h2
   omega
 have h6 := hall c (by simp)
 have := num_short (c := c) (s := (l.drop (j + 1)).takeWhile digitB) (by omega) (fun d hd => (hall d (by simp [hd])).1) (by simp only [decide_eq_false_iff_not] at h1; omega)
 omega
theorem token_f {l : Bs} {K j : Nat} {op op' : List Bool} {t : Tk} (h : tokenK l K j op = some (t, op')) : t.kind = 0 ∨ TF l j t := by
 rw [tokenK] at h
 cases hc : l[j]? with
 | none => rw [hc] at h; cases h
 | some c =>
  have hjl := (List.getElem?_eq_some_iff.1 hc).1
  rw [hc] at h
  dsimp only at h
  cases g1 : letterB c <;> rw [g1] at h
  case true =>
   simp only [cond_true] at h
   cases h
   have hr := runOf_le (fun c => letterB c || digitB c) l j (by omega)
   have hp : 1 ≤ runOf (fun c => letterB c || digitB c) l j := runOf_pos hc (by simp [g1])
   right
   have hlen : (cutT l 1 j (j + runOf (fun c => letterB c || digitB c) l j)).text.length ≤ 4 * (j + runOf (fun c => letterB c || digitB c) l j - j) := by
    show ((l.drop j).take _).length ≤ _
    rw [List.length_take]; omega
   unfold wordT
   cases hres : reservedB (cutT l 1 j (j + runOf (fun c => letterB c || digitB c) l j)).text <;> simp only [hres, cond_true, cond_false] <;> exact ⟨okS_other (by simp [cutT]) (by simp [cutT]), rfl, _, rfl, by omega, hr, hlen⟩
  cases g2 : digitB c <;> rw [g2] at h
  case true =>
   simp only [cond_true, cond_false] at h
   cases h
   exact number_f hc g2
  cases g3 : (c == 34 || c == 39) <;> rw [g3] at h
  case true =>
   simp only [cond_true, cond_false] at h
   cases hq : quotedK l j c K (j + 1) [] with
   | none => rw [hq] at h; cases h
   | some t0 =>
    rw [hq] at h; cases h
    rcases quoted_f hq with h | ⟨h1, h0, e, h2, h3, h4, h5⟩
    · exact .inl h
    simp only [List.length_nil] at h5
    exact .inr ⟨okS_other (by omega) (by omega), h0, e, h2, by omega, h4, by omega⟩
  cases g4 : (c == 96) <;> rw [g4] at h
  case true =>
   simp only [cond_true, cond_false] at h
   cases hq : pieceK l j 5 6 K (j + 1) [] with
   | none => rw [hq] at h; cases h
   | some t0 =>
    rw [hq] at h; cases h
    rcases piece_f hq with h | ⟨h1, h0, e, h2, h3, h4, h5⟩
    · exact .inl h
    simp only [List.length_nil] at h5
    exact .inr ⟨okS_other (by omega) (by omega), h0, e, h2, by omega, h4, by omega⟩
  cases g5 : (c == 125 && op.head?.getD false) <;> rw [g5] at h
  case true =>
   simp only [cond_true, cond_false] at h
   cases hq : pieceK l j 8 7 K (j + 1) [] with
   | none => rw [hq] at h; cases h
   | some t0 =>
    rw [hq] at h; cases h
    rcases piece_f hq with h | ⟨h1, h0, e, h2, h3, h4, h5⟩
    · exact .inl h
    simp only [List.length_nil] at h5
    exact .inr ⟨okS_other (by omega) (by omega), h0, e, h2, by omega, h4, by omega⟩
  simp only [cond_false] at h
  cases h
  rcases sign_f l j hjl signs3 (by decide) with h | ⟨h1, h2⟩
  · exact .inl h
  exact .inr h2
theorem next_f {l : Bs} {K i j : Nat} {op op' : List Bool} {t : Tk} (h : nextK l K i op = some (.tok t j op')) (hi : i ≤ l.length) : (t.kind = 10 ∧ t.text = [] ∧ t.pos = l.length) ∨ (t.kind ≠ 10 ∧ ∃ p, i ≤ p ∧ TF l p t ∧ (j : Int) = t.en) := by
 unfold nextK at h
 cases hb : blanksK l K i with
 | none => rw [hb] at h; cases h
 | some p =>
  obtain ⟨b, k⟩ := p
  have hle := blanksK_le hb hi
  rw [hb] at h
  cases b with
  | false => cases h
  | true =>
   dsimp only at h
   cases g : decide (k = l.length) <;> rw [g] at h
   case true =>
    have g : k = l.length := by simpa using g
    cases h; exact .inl ⟨rfl, rfl, by simp [g]⟩
   have g : k ≠ l.length := by simpa using g
   simp only [cond_false] at h
   cases ht : tokenK l K k op with
   | none => rw [ht] at h; cases h
   | some q0 =>
    obtain ⟨t0, op0⟩ := q0
    rw [ht] at h
    dsimp only at h
    cases g0 : (t0.kind == 0) <;> rw [g0] at h
    case true => cases h
    cases h
    have g1 : t.kind ≠ 0 := by simpa using g0
    rcases token_ok ht with h | ⟨h1, e, h2, h3, h4, h5⟩
    · exact absurd h g1
    rcases token_f ht with h | h
    · exact absurd h g1
    exact .inr ⟨h1, k, hle.1, h, by rw [h2]; simp⟩
theorem tw_snoc : ∀ (a : List Tk) (t : Tk), tw (a ++ [t]) = tw a + t.text.length + 1
 | [], t => by simp [tw]
 | x :: a, t => by rw [List.cons_append, tw, tw, tw_snoc a t]; omega
def TokOK (l : Bs) (ts : List Tk) : Prop := (∀ t ∈ ts, okS t ∧ 0 ≤ t.pos ∧ t.pos ≤ l.length ∧ t.text.length ≤ 4 * l.length) ∧ GoodT ts ∧ tw ts ≤ 5 * l.length + 1 ∧ ts.length ≤ l.length + 1
theorem tokens_f {l : Bs} {K : Nat} : ∀ {k n i : Nat} {op : List Bool} {acc ts : List Tk}, tokensK l K k n i op acc = some (.inl ts) → i ≤ l.length →
 (∀ t ∈ acc, okS t ∧ 0 ≤ t.pos ∧ t.pos ≤ l.length ∧ t.text.length ≤ 4 * l.length) → tw acc ≤ 5 * i → acc.length ≤ i → TokOK l ts
 | 0, n, i, op, acc, ts, h, hi, h1, h2, h3 => by cases h
 | k + 1, n, i, op, acc, ts, h, hi, h1, h2, h3 => by
  rw [tokensK] at h
  cases hr : nextK l K i op with
  | none => rw [hr] at h; cases h
  | some r =>
   rw [hr] at h
   cases r with
   | bad a => cases h
   | tok t j op' =>
    have h9 := next_ok9 hr hi
    dsimp only at h
    cases g2 : (n == 8192 && t.kind != 10) <;> rw [g2] at h
    case true => cases h
    dsimp only [cond_false] at h
    have hacc : ∀ u ∈ acc ++ [t], okS u ∧ 0 ≤ u.pos ∧ u.pos ≤ l.length ∧ u.text.length ≤ 4 * l.length := by
     intro u hu
     rcases List.mem_append.1 hu with hu | hu
     · exact h1 u hu
     rw [List.mem_singleton] at hu
     subst hu
     rcases next_f hr hi with ⟨f1, f2, f3⟩ | ⟨f1, p, f2, ⟨f3, f4, e, f5, f6, f7, f8⟩, f9⟩
     · exact ⟨okS_other (by omega) (by omega), by omega, by omega, by rw [f2]; simp⟩
     exact ⟨f3, by omega, by omega, by omega⟩
    cases g : (t.kind == 10) <;> rw [g] at h
    case true =>
     have g : t.kind = 10 := by simpa using g
     cases h
     rcases next_f hr hi with ⟨f1, f2, f3⟩ | ⟨f1, _⟩
     · refine ⟨hacc, ⟨t, by simp, f1⟩, ?_, ?_⟩
       · rw [tw_snoc, f2]; simp only [List.length_nil]; omega
       rw [List.length_append]; simp only [List.length_cons, List.length_nil]; omega
     exact absurd g f1
    case false =>
     have g : t.kind ≠ 10 := by simpa using g
     have h8 := h9.2.2.1 g
     rcases next_f hr hi with ⟨f1, f2, f3⟩ | ⟨f1, p, f2, ⟨f3, f4, e, f5, f6, f7, f8⟩, f9⟩
     · exact absurd f1 g
     refine tokens_f h (by omega) hacc ?_ ?_
     · rw [tw_snoc]; omega
     rw [List.length_append]; simp only [List.length_cons, List.length_nil]; omega
theorem tokens_err {l : Bs} {K : Nat} : ∀ {k n i : Nat} {op : List Bool} {acc : List Tk} {a e : Int}, tokensK l K k n i op acc = some (.inr (a, e)) → i ≤ l.length → 3 ≤ e ∧ e ≤ 4 ∧ 0 ≤ a ∧ a ≤ l.length
 | 0, n, i, op, acc, a, e, h, hi => by cases h
 | k + 1, n, i, op, acc, a, e, h, hi => by
  rw [tokensK] at h
  cases hr : nextK l K i op with
  | none => rw [hr] at h; cases h
  | some r =>
   rw [hr] at h
   cases r with
   | bad a =>
    cases h
    refine ⟨by decide, by decide, ?_⟩
    unfold nextK at hr
    cases hb : blanksK l K i with
    | none => rw [hb] at hr; cases hr
    | some p =>
     obtain ⟨b, k9⟩ := p
     have hle := blanksK_le hb hi
     rw [hb] at hr
     cases b with
     | false => cases hr; omega
     | true =>
      dsimp only at hr
      cases g : decide (k9 = l.length) <;> rw [g] at hr
      case true => cases hr
      simp only [cond_false] at hr
      cases ht : tokenK l K k9 op with
      | none => rw [ht] at hr; cases hr
      | some q0 =>
       obtain ⟨t0, op0⟩ := q0
       rw [ht] at hr
       dsimp only at hr
       cases g0 : (t0.kind == 0) <;> rw [g0] at hr <;> cases hr
       omega
   | tok t j op' =>
    have h9 := next_ok9 hr hi
    dsimp only at h
    cases g2 : (n == 8192 && t.kind != 10) <;> rw [g2] at h
    case true =>
     cases h
     rcases next_f hr hi with ⟨f1, f2, f3⟩ | ⟨f1, p, f2, ⟨f3, f4, e, f5, f6, f7, f8⟩, f9⟩ <;> omega
    dsimp only [cond_false] at h
    cases g : (t.kind == 10) <;> rw [g] at h
    case true => cases h
    case false => exact tokens_err h (by omega)
theorem tokensB_tot {l : Bs} {K : Nat} (hK : l.length < K) : ∃ r, tokensB l K = some r := by
 unfold tokensB
 cases decide (l.length > 65536) with
 | true => exact ⟨_, rfl⟩
 | false => exact tokens_tot hK K 0 0 [] [] (by omega) (by omega)
theorem tokensB_f {l : Bs} {K : Nat} {ts : List Tk} (h : tokensB l K = some (.inl ts)) : TokOK l ts := by
 unfold tokensB at h
 cases g : decide (l.length > 65536) <;> rw [g] at h
 · exact tokens_f h (by omega) (by simp) (by simp [tw]) (by simp)
 cases h
theorem tokensB_err {l : Bs} {K : Nat} {a e : Int} (h : tokensB l K = some (.inr (a, e))) : 2 ≤ e ∧ e ≤ 4 ∧ 0 ≤ a ∧ a ≤ l.length := by
 unfold tokensB at h
 cases g : decide (l.length > 65536) <;> rw [g] at h
 · have := tokens_err h (by omega); omega
 cases h; omega
theorem tok_lok {l : Bs} {ts : List Tk} (h : TokOK l ts) (hl : l.length ≤ 100000) : LOK ts := by
 obtain ⟨h1, h2, h3, h4⟩ := h
 exact ⟨fun t ht => by obtain ⟨⟨a, b⟩, c, d, e⟩ := h1 t ht; exact ⟨a, b, ⟨c, by omega⟩, by omega⟩, by omega, h2⟩
def KF : Nat := 20000
def NF : Nat := 400000
theorem whole_tot {l : Bs} {kind : Nat} (hl : l.length ≤ 2000) : ∃ r, wholeB l KF NF kind = some r ∧ ∀ x, r = .inl x → x.size ≤ 200000 := by
 unfold wholeB
 obtain ⟨r, hr⟩ := tokensB_tot (l := l) (K := KF) (by unfold KF; omega)
 rw [hr]
 rcases r with ts | e
 · dsimp only
   obtain ⟨h1, h2, h3, h4⟩ := tokensB_f hr
   cases decide (0 ≤ (depthL 64 ts 0 0 0 (-1)).2) with
   | true => exact ⟨_, rfl, fun x h => by cases h⟩
   | false =>
    obtain ⟨r2, h5, h6⟩ := run_total (K := KF) (N := NF) (whole := kind) h2 (by unfold KF; omega) (by unfold NF; omega)
    dsimp only [cond_false]
    rw [h5]
    rcases r2 with a | ⟨x, ts'⟩
    · exact ⟨_, rfl, fun x h => by cases h⟩
    exact ⟨_, rfl, fun y h => by cases h; have := h6 x ts' rfl; omega⟩
 exact ⟨_, rfl, fun x h => by cases h⟩
end Go.Proofs
