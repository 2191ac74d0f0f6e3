/- Where the grammar's trees stand: no node that counts stands before the one above it, and all stand in the text. -/
import Derived.Test.YtldagpopfebbbaaGreatDoorZN
set_option linter.unusedVariables false
set_option linter.unusedSimpArgs false
namespace Go.Px
def lo : List Tk → Int
 | [] => 0
 | t :: _ => t.pos
/-- how much of the text a sign takes -/
def wid (t : Tk) : Int := bif t.kind == 9 then (t.text.length : Int) else 0
/-- the tokens stand one behind the other, none behind N -/
def Srt (N : Int) : List Tk → Prop
 | [] => True
 | [t] => t.pos + wid t ≤ N
 | t :: u :: l => t.pos + wid t ≤ u.pos ∧ Srt N (u :: l)
def St (N : Int) (ts : List Tk) : Prop := Srt N ts ∧ 0 ≤ lo ts ∧ lo ts ≤ N
/-- if m does not give up, Q holds -/
def Hol {α : Type} (m : M α) (ts : List Tk) (Q : α → List Tk → Prop) : Prop := ∀ x ts', m ts = some (.ok (x, ts')) → Q x ts'
mutual
/-- x and all in it stands behind b, none before what is above it -/
def Fr (N b : Int) : PT → Prop
 | .node k _ _ a l => ((k = 1 ∨ k = 2) ∧ Frs N b l) ∨ (b ≤ a ∧ a ≤ N ∧ Frs N a l)
def Frs (N b : Int) : List PT → Prop
 | [] => True
 | x :: l => Fr N b x ∧ Frs N b l
end
mutual
theorem fr_mono {N b c : Int} : ∀ {x : PT}, Fr N b x → c ≤ b → Fr N c x
 | .node k s n a l, h, hc => by
  unfold Fr at h ⊢
  rcases h with ⟨hk, h⟩ | ⟨h1, h2, h3⟩
  · exact .inl ⟨hk, frs_mono h hc⟩
  · exact .inr ⟨by omega, h2, h3⟩
theorem frs_mono {N b c : Int} : ∀ {l : List PT}, Frs N b l → c ≤ b → Frs N c l
 | [], h, hc => by unfold Frs; trivial
 | x :: l, h, hc => by unfold Frs at h ⊢; exact ⟨fr_mono h.1 hc, frs_mono h.2 hc⟩
end
theorem frs_app {N b : Int} : ∀ {l r : List PT}, Frs N b l → Frs N b r → Frs N b (l ++ r)
 | [], r, h, h' => h'
 | x :: l, r, h, h' => by rw [List.cons_append]; unfold Frs at h ⊢; exact ⟨h.1, frs_app h.2 h'⟩
theorem frs_nil {N b : Int} : Frs N b [] := by unfold Frs; trivial
theorem frs_cons {N b : Int} {x : PT} {l : List PT} (h : Fr N b x) (h' : Frs N b l) : Frs N b (x :: l) := by unfold Frs; exact ⟨h, h'⟩
theorem fr_node {N b a k n : Int} {s : Bs} {l : List PT} (h1 : b ≤ a) (h2 : a ≤ N) (h3 : Frs N a l) : Fr N b (.node k s n a l) := by unfold Fr; exact .inr ⟨h1, h2, h3⟩
theorem fr_two {N b a n : Int} {s : Bs} {l : List PT} (h3 : Frs N b l) : Fr N b (.node 2 s n a l) := by unfold Fr; exact .inl ⟨.inr rfl, h3⟩
theorem fr_one {N b a n : Int} {s : Bs} : Fr N b (.node 1 s n a []) := by unfold Fr; exact .inl ⟨.inl rfl, frs_nil⟩
theorem fr_kids {N b : Int} {x : PT} (h : Fr N b x) : Frs N b x.kids := by
 obtain ⟨k, s, n, a, l⟩ := x
 unfold Fr at h
 rcases h with ⟨_, h⟩ | ⟨h1, _, h⟩
 · exact h
 · exact frs_mono h h1
theorem fr_moved {N b a : Int} {s : Bs} {n p : Int} {l : List PT} (h : Fr N b (.node 2 s n p l)) : Fr N b (.node 2 s n a l) := fr_two (fr_kids h)
section
variable {N : Int} {α β : Type} {ts : List Tk} {Q : β → List Tk → Prop} {m : M α} {k : α → M β}
theorem Hol.bind (h : Hol m ts fun x ts' => Hol (k x) ts' Q) : Hol (m >>= k) ts Q := fun y ts2 e => by
 have e : M.bind m k ts = _ := e
 unfold M.bind at e
 cases hm : m ts with
 | none => rw [hm] at e; cases e
 | some r =>
  rw [hm] at e
  cases r with
  | error a => cases e
  | ok p => obtain ⟨x, ts1⟩ := p; exact h x ts1 hm y ts2 e
theorem Hol.mono {Q' : α → List Tk → Prop} {Q : α → List Tk → Prop} (h : Hol m ts Q') (f : ∀ x ts', Q' x ts' → Q x ts') : Hol m ts Q := fun x ts' e => f _ _ (h x ts' e)
theorem hol_pure {x : β} (h : Q x ts) : Hol (pure x) ts Q := fun _ _ e => by cases e; exact h
theorem hol_fail : Hol (failM : M β) ts Q := fun _ _ e => by cases ts <;> cases e
theorem hol_oof : Hol (oofM : M β) ts Q := fun _ _ e => by cases e
theorem hol_bif {b : Bool} {m n : M β} (h1 : b = true → Hol m ts Q) (h0 : b = false → Hol n ts Q) : Hol (bif b then m else n) ts Q := by
 cases b with
 | true => exact h1 rfl
 | false => exact h0 rfl
theorem hol_bifb {b : Bool} {m n : M α} (h1 : b = true → Hol (m >>= k) ts Q) (h0 : b = false → Hol (n >>= k) ts Q) : Hol ((bif b then m else n) >>= k) ts Q := by
 cases b with
 | true => exact h1 rfl
 | false => exact h0 rfl
theorem hol_now {k : Tk → M β} (h1 : ∀ t l, ts = t :: l → t.pos = lo ts → Hol (k t) ts Q) : Hol (nowM >>= k) ts Q := by
 cases ts with
 | nil => exact fun _ _ e => by cases e
 | cons t l => exact Hol.bind fun _ _ e => by cases e; exact h1 t l rfl rfl
theorem hol_then {i : Nat} {k : Tk → M β} (h1 : ∀ t, Hol (k t) ts Q) : Hol (thenM i >>= k) ts Q := by
 cases ts with
 | nil => exact fun _ _ e => by cases e
 | cons t l => exact Hol.bind fun _ _ e => by cases e; exact h1 _
theorem hol_closed {k : Tk → M β} (h1 : ∀ t, Hol (k t) ts Q) : Hol (closedM >>= k) ts Q := by
 cases ts with
 | nil => exact fun _ _ e => by cases e
 | cons t l => exact Hol.bind fun _ _ e => by cases e; exact h1 _
theorem wid_pos (t : Tk) : 0 ≤ wid t := by unfold wid; cases (t.kind == 9) <;> simp
theorem st_tail {t u : Tk} {l : List Tk} (h : St N (t :: u :: l)) : St N (u :: l) ∧ t.pos + wid t ≤ u.pos := by
 obtain ⟨h1, h2, h3⟩ := h
 have h4 : Srt N (u :: l) := h1.2
 have h5 := wid_pos t
 have h6 : t.pos + wid t ≤ u.pos := h1.1
 have h7 : ∀ (l : List Tk) (u : Tk), Srt N (u :: l) → u.pos ≤ N := fun l => by
  induction l with
  | nil => exact fun u h => by have := wid_pos u; have h : u.pos + wid u ≤ N := h; omega
  | cons v l ih => exact fun u h => by have := ih v h.2; have := wid_pos u; have := h.1; omega
 have h2 : 0 ≤ t.pos := h2
 exact ⟨⟨h4, by show 0 ≤ u.pos; omega, h7 l u h4⟩, h6⟩
theorem hol_next {k : Tk → M β} (h : St N ts) (h1 : ∀ t ts', t.pos = lo ts → St N ts' → lo ts ≤ lo ts' → lo ts' ≤ N → Hol (k t) ts' Q) : Hol (nextM >>= k) ts Q := by
 rcases ts with _ | ⟨t, _ | ⟨u, l⟩⟩
 · exact fun _ _ e => by cases e
 · exact Hol.bind fun _ _ e => by cases e; exact h1 t _ rfl h (Int.le_refl _) h.2.2
 · refine Hol.bind fun _ _ e => ?_
   cases e
   obtain ⟨h2, h3⟩ := st_tail h
   have := wid_pos t
   exact h1 t _ rfl h2 (by show t.pos ≤ u.pos; omega) h2.2.2
theorem hol_is {s : Bs} {k : Bool → M β} (h1 : Hol (k true) ts Q) (h0 : Hol (k false) ts Q) : Hol (isM s >>= k) ts Q := by
 unfold isM
 rw [M.assoc]
 refine hol_now fun t l e _ => ?_
 rw [M.pureb]
 cases saysB t s with
 | true => exact h1
 | false => exact h0
theorem hol_take {s : Bs} {k : Bool → M β} (h : St N ts) (h1 : ∀ ts', St N ts' → lo ts ≤ lo ts' → lo ts' ≤ N → Hol (k true) ts' Q) (h0 : Hol (k false) ts Q) : Hol (takeM s >>= k) ts Q := by
 unfold takeM
 rw [M.assoc]
 refine hol_is ?_ h0
 show Hol ((nextM >>= fun _ => pure true) >>= k) ts Q
 rw [M.assoc]
 exact hol_next h fun t ts' _ h2 h3 h4 => h1 ts' h2 h3 h4
theorem hol_must {s : Bs} {k : Unit → M β} (h : St N ts) (h1 : ∀ ts', St N ts' → lo ts ≤ lo ts' → lo ts' ≤ N → Hol (k ()) ts' Q) : Hol (mustM s >>= k) ts Q := by
 unfold mustM
 rw [M.assoc]
 refine hol_take h h1 ?_
 show Hol (failM >>= k) ts Q
 rw [M.failb]; exact hol_fail
theorem hol_name {k : Bs → M β} (h : St N ts) (h1 : ∀ s ts', St N ts' → lo ts ≤ lo ts' → lo ts' ≤ N → Hol (k s) ts' Q) : Hol (nameM >>= k) ts Q := by
 unfold nameM
 rw [M.assoc]
 refine hol_now fun t l e _ => ?_
 cases hb : (t.kind != 1) with
 | true => show Hol (failM >>= k) ts Q; rw [M.failb]; exact hol_fail
 | false =>
  show Hol ((nextM >>= fun t => pure t.text) >>= k) ts Q
  rw [M.assoc]
  exact hol_next h fun t ts' _ h2 h3 h4 => h1 _ ts' h2 h3 h4
theorem hol_none {k : PT → M β} (h1 : Hol (k (.node 1 [] 0 (lo ts) [])) ts Q) : Hol (noneM >>= k) ts Q := by
 unfold noneM; rw [M.assoc]; exact hol_now fun t l e h => by rw [M.pureb, h]; exact h1
theorem hol_empty {k : PT → M β} (h1 : Hol (k (.node 2 [] 0 (lo ts) [])) ts Q) : Hol (emptyM >>= k) ts Q := by
 unfold emptyM; rw [M.assoc]; exact hol_now fun t l e h => by rw [M.pureb, h]; exact h1
theorem split_st {t u : Tk} (h : splitT t = some u) : u.pos = t.pos + 1 ∧ u.pos + wid u = t.pos + wid t := by
 obtain ⟨kk, s, p, en⟩ := t
 rcases s with _ | ⟨c, _ | ⟨d, l⟩⟩
 · cases h
 · cases h
 · simp only [splitT] at h
   cases hb : (kk == 9 && c == 62) with
   | false => rw [hb] at h; cases h
   | true =>
    rw [hb] at h
    simp only [Bool.and_eq_true] at hb
    cases h
    refine ⟨rfl, ?_⟩
    unfold wid
    simp only [hb.1, cond_true, List.length_cons]
    omega
theorem hol_angle {k : Unit → M β} (h : St N ts) (h1 : ∀ ts', St N ts' → lo ts ≤ lo ts' → lo ts' ≤ N → Hol (k ()) ts' Q) : Hol (angleM >>= k) ts Q := by
 unfold angleM
 rw [M.assoc]
 refine hol_take h h1 ?_
 show Hol ((nowM >>= fun t => match splitT t with | none => failM | some u => pushM u) >>= k) ts Q
 rw [M.assoc]
 refine hol_now fun t l e _ => ?_
 cases hs : splitT t with
 | none => show Hol (failM >>= k) ts Q; rw [M.failb]; exact hol_fail
 | some u =>
  obtain ⟨h2, h3⟩ := split_st hs
  show Hol (pushM u >>= k) ts Q
  subst e
  rcases l with _ | ⟨v, l⟩
  · refine Hol.bind fun _ _ e => ?_
    cases e
    have h4 : t.pos + wid t ≤ N := h.1
    have h7 := wid_pos u
    have h9 : 0 ≤ t.pos := h.2.1
    exact h1 _ ⟨show u.pos + wid u ≤ N by omega, by show 0 ≤ u.pos; omega, by show u.pos ≤ N; omega⟩ (by show t.pos ≤ u.pos; omega) (by show u.pos ≤ N; omega)
  · obtain ⟨h4, h5⟩ := st_tail h
    refine Hol.bind fun _ _ e => ?_
    cases e
    have h6 : 0 ≤ lo (v :: l) := h4.2.1
    have h7 := wid_pos u
    have h8 : v.pos ≤ N := h4.2.2
    have h9 : 0 ≤ t.pos := h.2.1
    exact h1 _ ⟨⟨by omega, h4.1⟩, by show 0 ≤ u.pos; omega, by show u.pos ≤ N; omega⟩ (by show t.pos ≤ u.pos; omega) (by show u.pos ≤ N; omega)
theorem hol_takeOne {k : Option Bs → M β} (h : St N ts) (h1 : ∀ s ts', St N ts' → lo ts ≤ lo ts' → lo ts' ≤ N → Hol (k (some s)) ts' Q) (h0 : Hol (k none) ts Q) : ∀ l, Hol (takeOne l >>= k) ts Q
 | [] => h0
 | s :: l => by
  unfold takeOne
  rw [M.assoc]
  exact hol_take h (fun ts' h2 h3 h4 => h1 s ts' h2 h3 h4) (hol_takeOne h h1 h0 l)
end
def base : NT → List Tk → Int
 | .loop a, _ | .ended _ a _, _ | .tri a, _ | .arrowed a, _ | .enu _ a, _ | .variabl _ a, _ | .functio _ a, _ | .clas a, _ | .namespac a, _ => a
 | _, ts => lo ts
def preP : NT → List Tk → Prop
 | .loop a, ts | .ended _ a _, ts | .tri a, ts | .arrowed a, ts | .enu _ a, ts | .variabl _ a, ts | .functio _ a, ts | .clas a, ts | .namespac a, ts => a ≤ lo ts
 | .worded t, ts => t.pos = lo ts
 | _, _ => True
def postP (N : Int) (nt : NT) (ts : List Tk) (x : PT) (ts' : List Tk) : Prop := St N ts' ∧ lo ts ≤ lo ts' ∧ lo ts' ≤ N ∧ Fr N (base nt ts) x
def GQ (N : Int) (g : NT → M PT) : Prop := ∀ nt ts, St N ts → preP nt ts → Hol (g nt) ts (postP N nt ts)
section
variable {N : Int} {K : Nat} {g : NT → M PT} {β : Type} {ts : List Tk} {Q : β → List Tk → Prop}
theorem hol_g (hg : GQ N g) (nt : NT) {k : PT → M β} (h : St N ts) (hp : preP nt ts) (h1 : ∀ x ts', St N ts' → lo ts ≤ lo ts' → lo ts' ≤ N → Fr N (base nt ts) x → Hol (k x) ts' Q) : Hol (g nt >>= k) ts Q :=
 Hol.bind ((hg nt ts h hp).mono fun x ts' p => h1 x ts' p.1 p.2.1 p.2.2.1 p.2.2.2)
theorem hol_g0 (hg : GQ N g) (nt : NT) {Q : PT → List Tk → Prop} (h : St N ts) (hp : preP nt ts) (h1 : ∀ x ts', St N ts' → lo ts ≤ lo ts' → lo ts' ≤ N → Fr N (base nt ts) x → Q x ts') : Hol (g nt) ts Q :=
 (hg nt ts h hp).mono fun x ts' p => h1 x ts' p.1 p.2.1 p.2.2.1 p.2.2.2
theorem hol_none0 {Q : PT → List Tk → Prop} (h1 : Q (.node 1 [] 0 (lo ts) []) ts) : Hol noneM ts Q := by rw [← M.bpure noneM]; exact hol_none (hol_pure h1)
theorem hol_empty0 {Q : PT → List Tk → Prop} (h1 : Q (.node 2 [] 0 (lo ts) []) ts) : Hol emptyM ts Q := by rw [← M.bpure emptyM]; exact hol_empty (hol_pure h1)
theorem hol_is0 {s : Bs} {Q : Bool → List Tk → Prop} (h1 : Q true ts) (h0 : Q false ts) : Hol (isM s) ts Q := by rw [← M.bpure (isM s)]; exact hol_is (hol_pure h1) (hol_pure h0)
theorem hol_more {m : M PT} {b : Int} (hm : ∀ ts, St N ts → b ≤ lo ts → Hol m ts fun x ts' => St N ts' ∧ lo ts ≤ lo ts' ∧ lo ts' ≤ N ∧ Fr N (lo ts) x) : ∀ k acc ts, St N ts → b ≤ lo ts → Frs N b acc → Hol (moreM k m acc) ts fun l ts' => St N ts' ∧ lo ts ≤ lo ts' ∧ lo ts' ≤ N ∧ Frs N b l
 | 0, acc, ts, h, hb, ha => hol_oof
 | k + 1, acc, ts, h, hb, ha => by
  unfold moreM
  refine hol_take h (fun ts1 h1 h2 h3 => ?_) (hol_pure ⟨h, Int.le_refl _, h.2.2, ha⟩)
  rw [cond_true]
  refine Hol.bind ((hm ts1 h1 (by omega)).mono fun x ts2 p => ?_)
  obtain ⟨p1, p2, p3, p4⟩ := p
  exact (hol_more hm k _ ts2 p1 (by omega) (frs_app ha (frs_cons (fr_mono p4 (by omega)) frs_nil))).mono fun l ts3 q => ⟨q.1, by have := q.2.1; omega, q.2.2⟩
theorem hol_list {m : M PT} {k : PT → M β} (h : St N ts) (hm : ∀ ts, St N ts → Hol m ts fun x ts' => St N ts' ∧ lo ts ≤ lo ts' ∧ lo ts' ≤ N ∧ Fr N (lo ts) x)
 (h1 : ∀ l ts', St N ts' → lo ts ≤ lo ts' → lo ts' ≤ N → Frs N (lo ts) l → Hol (k (.node 2 [] 0 (lo ts) l)) ts' Q) : Hol (listM K m >>= k) ts Q := by
 unfold listM
 rw [M.assoc]
 refine hol_now fun t l e ht => ?_
 rw [M.assoc]
 refine Hol.bind ((hm ts h).mono fun x ts1 p => ?_)
 obtain ⟨p1, p2, p3, p4⟩ := p
 rw [M.assoc]
 refine Hol.bind ((hol_more (b := lo ts) (fun ts h _ => hm ts h) K [x] ts1 p1 p2 (frs_cons p4 frs_nil)).mono fun l ts2 q => ?_)
 obtain ⟨q1, q2, q3, q4⟩ := q
 rw [M.pureb, ht]
 exact h1 l ts2 q1 (by omega) q3 q4
theorem hol_list0 {m : M PT} {Q : PT → List Tk → Prop} (h : St N ts) (hm : ∀ ts, St N ts → Hol m ts fun x ts' => St N ts' ∧ lo ts ≤ lo ts' ∧ lo ts' ≤ N ∧ Fr N (lo ts) x)
 (h1 : ∀ l ts', St N ts' → lo ts ≤ lo ts' → lo ts' ≤ N → Frs N (lo ts) l → Q (.node 2 [] 0 (lo ts) l) ts') : Hol (listM K m) ts Q := by
 rw [← M.bpure (listM K m)]; exact hol_list h hm fun l ts' a b c d => hol_pure (h1 l ts' a b c d)
variable (hg : GQ N g)
include hg
theorem hol_lg (nt : NT) {k : PT → M β} (h : St N ts) (hp : ∀ ts, preP nt ts) (hb : ∀ ts, base nt ts = lo ts)
 (h1 : ∀ l ts', St N ts' → lo ts ≤ lo ts' → lo ts' ≤ N → Frs N (lo ts) l → Hol (k (.node 2 [] 0 (lo ts) l)) ts' Q) : Hol (listM K (g nt) >>= k) ts Q :=
 hol_list h (fun ts h => hol_g0 hg nt h (hp ts) fun x ts' a b c d => ⟨a, b, c, by rw [← hb ts]; exact d⟩) h1
set_option maxHeartbeats 20000000 in
theorem q_A : (∀  ts, St N ts → Hol (varM) ts (fun x ts' => St N ts' ∧ lo ts ≤ lo ts' ∧ lo ts' ≤ N ∧ Fr N (lo ts) x)) ∧
 (∀ (m : Bool) ts, St N ts → Hol (paramM g m) ts (fun x ts' => St N ts' ∧ lo ts ≤ lo ts' ∧ lo ts' ≤ N ∧ Fr N (lo ts) x)) ∧
 (∀ (e : Bs) ts, St N ts → Hol (mayM g e) ts (fun x ts' => St N ts' ∧ lo ts ≤ lo ts' ∧ lo ts' ≤ N ∧ Fr N (lo ts) x)) := by
 refine ⟨?_, ?_, ?_⟩
 all_goals
  intros
  have hN := (‹St N _› : St N _).2.2
  first | unfold varM | unfold paramM | unfold mayM
  try simp only [nrmP, base]
  repeat' ((first
   | with_reducible exact hol_fail
   | with_reducible exact hol_oof
   | with_reducible refine hol_now fun t l ht hl => ?_
   | with_reducible refine hol_then fun t => ?_
   | with_reducible refine hol_closed fun t => ?_
   | with_reducible refine hol_next ‹_› fun t ts' ha hb hc hd => ?_
   | with_reducible refine hol_is ?_ ?_
   | with_reducible refine hol_take ‹_› (fun ts' h1 h2 h3 => ?_) ?_
   | with_reducible refine hol_must ‹_› fun ts' h1 h2 h3 => ?_
   | with_reducible refine hol_name ‹_› fun s ts' h1 h2 h3 => ?_
   | with_reducible refine hol_angle ‹_› fun ts' h1 h2 h3 => ?_
   | with_reducible refine hol_none ?_
   | with_reducible refine hol_empty ?_
   | with_reducible refine hol_bifb (fun hb => ?_) (fun hb => ?_)
   | with_reducible refine hol_bif (fun hb => ?_) (fun hb => ?_)
   | (with_reducible refine hol_g hg _ ‹_› (by simp only [preP]; try omega) fun x ts' h1 h2 h3 h4 => ?_; simp only [base] at h4)
   | with_reducible exact frs_nil
   | with_reducible exact fr_mono ‹_› (by omega)
   | with_reducible exact frs_mono ‹_› (by omega)
   | with_reducible exact fr_one
   | with_reducible refine fr_two ?_
   | with_reducible refine fr_node (by omega) (by omega) ?_
   | with_reducible refine frs_cons ?_ ?_
   | with_reducible refine frs_app ?_ ?_
   | with_reducible exact frs_mono (fr_kids ‹_›) (by omega)
   | refine hol_pure ⟨‹_›, by omega, by omega, ?_⟩
   | refine hol_lg hg _ ‹_› (fun _ => trivial) (fun _ => rfl) fun l ts' h1 h2 h3 h4 => ?_
   | (refine hol_g0 hg _ ‹_› (by first | trivial | (simp only [preP]; omega)) fun x ts' h1 h2 h3 h4 => ⟨h1, by omega, h3, fr_mono h4 ?_⟩; simp only [base]; omega)
   | refine hol_none0 ⟨‹_›, by omega, by omega, ?_⟩
   | refine hol_empty0 ⟨‹_›, by omega, by omega, ?_⟩
   | omega
   | trivial) <;> try simp only [nrmP, base])
omit hg in
theorem hol_calls {k : Bool → M β} (h1 : ∀ b, Hol (k b) ts Q) : Hol (callsM g >>= k) ts Q := by
 refine Hol.bind fun b ts' e => ?_
 unfold callsM at e
 have key : ts' = ts := by
  split at e
  · cases e
  · cases e; rfl
  · split at e
    · cases e
    · cases e; rfl
    · cases e; rfl
 rw [key]; exact h1 b
set_option maxHeartbeats 20000000 in
theorem q_B : (∀  ts, St N ts → Hol (varsM K) ts (fun x ts' => St N ts' ∧ lo ts ≤ lo ts' ∧ lo ts' ≤ N ∧ Fr N (lo ts) x)) := by
 all_goals
  intros
  have hN := (‹St N _› : St N _).2.2
  first | unfold varsM
  try simp only [nrmP, base]
  repeat' ((first
   | with_reducible refine hol_list ‹_› (q_A hg).1 fun l ts' h1 h2 h3 h4 => ?_
   | with_reducible exact hol_fail
   | with_reducible exact hol_oof
   | with_reducible refine hol_now fun t l ht hl => ?_
   | with_reducible refine hol_then fun t => ?_
   | with_reducible refine hol_closed fun t => ?_
   | with_reducible refine hol_next ‹_› fun t ts' ha hb hc hd => ?_
   | with_reducible refine hol_is ?_ ?_
   | with_reducible refine hol_take ‹_› (fun ts' h1 h2 h3 => ?_) ?_
   | with_reducible refine hol_must ‹_› fun ts' h1 h2 h3 => ?_
   | with_reducible refine hol_name ‹_› fun s ts' h1 h2 h3 => ?_
   | with_reducible refine hol_angle ‹_› fun ts' h1 h2 h3 => ?_
   | with_reducible refine hol_none ?_
   | with_reducible refine hol_empty ?_
   | with_reducible refine hol_bifb (fun hb => ?_) (fun hb => ?_)
   | with_reducible refine hol_bif (fun hb => ?_) (fun hb => ?_)
   | (with_reducible refine hol_g hg _ ‹_› (by simp only [preP]; try omega) fun x ts' h1 h2 h3 h4 => ?_; simp only [base] at h4)
   | with_reducible exact frs_nil
   | with_reducible exact fr_mono ‹_› (by omega)
   | with_reducible exact frs_mono ‹_› (by omega)
   | with_reducible exact fr_one
   | with_reducible refine fr_two ?_
   | with_reducible refine fr_node (by omega) (by omega) ?_
   | with_reducible refine frs_cons ?_ ?_
   | with_reducible refine frs_app ?_ ?_
   | with_reducible exact frs_mono (fr_kids ‹_›) (by omega)
   | refine hol_pure ⟨‹_›, by omega, by omega, ?_⟩
   | refine hol_lg hg _ ‹_› (fun _ => trivial) (fun _ => rfl) fun l ts' h1 h2 h3 h4 => ?_
   | (refine hol_g0 hg _ ‹_› (by first | trivial | (simp only [preP]; omega)) fun x ts' h1 h2 h3 h4 => ⟨h1, by omega, h3, fr_mono h4 ?_⟩; simp only [base]; omega)
   | refine hol_none0 ⟨‹_›, by omega, by omega, ?_⟩
   | refine hol_empty0 ⟨‹_›, by omega, by omega, ?_⟩
   | omega
   | trivial) <;> try simp only [nrmP, base])
set_option maxHeartbeats 20000000 in
theorem q_C : (∀ (b : Int) k x ts, St N ts → b ≤ lo ts → Fr N b x → Hol (partsM g b k x) ts (fun x ts' => St N ts' ∧ lo ts ≤ lo ts' ∧ lo ts' ≤ N ∧ Fr N (b) x)) ∧
 (∀ (b : Int) k x ts, St N ts → b ≤ lo ts → Fr N b x → Hol (dotsM b k x) ts (fun x ts' => St N ts' ∧ lo ts ≤ lo ts' ∧ lo ts' ≤ N ∧ Fr N (b) x)) ∧
 (∀ (b : Int) k x ts, St N ts → b ≤ lo ts → Fr N b x → Hol (rowM b k x) ts (fun x ts' => St N ts' ∧ lo ts ≤ lo ts' ∧ lo ts' ≤ N ∧ Fr N (b) x)) ∧
 (∀ (b : Int) k (tt : Int) acc ts, St N ts → b ≤ lo ts → Frs N b acc → Hol (tplM g k tt acc) ts (fun l ts' => St N ts' ∧ lo ts ≤ lo ts' ∧ lo ts' ≤ N ∧ Frs N (b) l)) ∧
 (∀ (b : Int) k acc ts, St N ts → b ≤ lo ts → Frs N b acc → Hol (pairsM g k acc) ts (fun l ts' => St N ts' ∧ lo ts ≤ lo ts' ∧ lo ts' ≤ N ∧ Frs N (b) l)) ∧
 (∀ (b : Int) k acc ts, St N ts → b ≤ lo ts → Frs N b acc → Hol (stmtsM g k acc) ts (fun l ts' => St N ts' ∧ lo ts ≤ lo ts' ∧ lo ts' ≤ N ∧ Frs N (b) l)) ∧
 (∀ (b : Int) k (c : Int) acc ts, St N ts → b ≤ lo ts → Frs N b acc → Hol (classM g k c acc) ts (fun l ts' => St N ts' ∧ lo ts ≤ lo ts' ∧ lo ts' ≤ N ∧ Frs N (b) l.2)) ∧
 (∀ (b : Int) k acc ts, St N ts → b ≤ lo ts → Frs N b acc → Hol (membersM g k acc) ts (fun l ts' => St N ts' ∧ lo ts ≤ lo ts' ∧ lo ts' ≤ N ∧ Frs N (b) l)) ∧
 (∀ (b : Int) k acc ts, St N ts → b ≤ lo ts → Frs N b acc → Hol (unionM g k acc) ts (fun l ts' => St N ts' ∧ lo ts ≤ lo ts' ∧ lo ts' ≤ N ∧ Frs N (b) l)) ∧
 (∀ (b : Int) k acc ts, St N ts → b ≤ lo ts → Frs N b acc → Hol (piecesM g k acc) ts (fun l ts' => St N ts' ∧ lo ts ≤ lo ts' ∧ lo ts' ≤ N ∧ Frs N (b) l)) ∧
 (∀ (b : Int) k acc ts, St N ts → b ≤ lo ts → Frs N b acc → Hol (progM g k acc) ts (fun l ts' => St N ts' ∧ lo ts ≤ lo ts' ∧ lo ts' ≤ N ∧ Frs N (b) l)) ∧
 (∀ (b : Int) k s ts, St N ts → True → True → Hol (pathM k s) ts (fun l ts' => St N ts' ∧ lo ts ≤ lo ts' ∧ lo ts' ≤ N ∧ True)) := by
 refine ⟨?_, ?_, ?_, ?_, ?_, ?_, ?_, ?_, ?_, ?_, ?_, ?_⟩
 all_goals
  intro b k
  induction k with
  | zero => intros; exact hol_oof
  | succ k ih =>
   intros
   have hN := (‹St N _› : St N _).2.2
   first | unfold partsM | unfold dotsM | unfold rowM | unfold tplM | unfold pairsM | unfold stmtsM | unfold classM | unfold membersM | unfold unionM | unfold piecesM | unfold progM | unfold pathM
   try simp only [nrmP, base]
   repeat' ((first
    | with_reducible refine (ih _ _ ?_ ?_ ?_).mono fun l ts' q => ⟨q.1, by have := q.2.1; omega, q.2.2⟩
    | with_reducible refine (ih _ _ _ ?_ ?_ ?_).mono fun l ts' q => ⟨q.1, by have := q.2.1; omega, q.2.2⟩
    | with_reducible refine hol_calls fun b => ?_
    | with_reducible exact hol_fail
    | with_reducible exact hol_oof
    | with_reducible refine hol_now fun t l ht hl => ?_
    | with_reducible refine hol_then fun t => ?_
    | with_reducible refine hol_closed fun t => ?_
    | with_reducible refine hol_next ‹_› fun t ts' ha hb hc hd => ?_
    | with_reducible refine hol_is ?_ ?_
    | with_reducible refine hol_take ‹_› (fun ts' h1 h2 h3 => ?_) ?_
    | with_reducible refine hol_must ‹_› fun ts' h1 h2 h3 => ?_
    | with_reducible refine hol_name ‹_› fun s ts' h1 h2 h3 => ?_
    | with_reducible refine hol_angle ‹_› fun ts' h1 h2 h3 => ?_
    | with_reducible refine hol_none ?_
    | with_reducible refine hol_empty ?_
    | with_reducible refine hol_bifb (fun hb => ?_) (fun hb => ?_)
    | with_reducible refine hol_bif (fun hb => ?_) (fun hb => ?_)
    | (with_reducible refine hol_g hg _ ‹_› (by simp only [preP]; try omega) fun x ts' h1 h2 h3 h4 => ?_; simp only [base] at h4)
    | with_reducible exact frs_nil
    | with_reducible exact fr_mono ‹_› (by omega)
    | with_reducible exact frs_mono ‹_› (by omega)
    | with_reducible exact fr_one
    | with_reducible refine fr_two ?_
    | with_reducible refine fr_node (by omega) (by omega) ?_
    | with_reducible refine frs_cons ?_ ?_
    | with_reducible refine frs_app ?_ ?_
    | with_reducible exact frs_mono (fr_kids ‹_›) (by omega)
    | refine hol_pure ⟨‹_›, by omega, by omega, ?_⟩
    | refine hol_lg hg _ ‹_› (fun _ => trivial) (fun _ => rfl) fun l ts' h1 h2 h3 h4 => ?_
    | (refine hol_g0 hg _ ‹_› (by first | trivial | (simp only [preP]; omega)) fun x ts' h1 h2 h3 h4 => ⟨h1, by omega, h3, fr_mono h4 ?_⟩; simp only [base]; omega)
    | refine hol_none0 ⟨‹_›, by omega, by omega, ?_⟩
    | refine hol_empty0 ⟨‹_›, by omega, by omega, ?_⟩
    | omega
    | trivial) <;> try simp only [nrmP, base])
set_option maxHeartbeats 20000000 in
theorem q_D : (∀ (t : Tk) ts, St N ts → t.pos ≤ lo ts → Hol (declM K g t) ts (fun d ts' => St N ts' ∧ lo ts ≤ lo ts' ∧ lo ts' ≤ N ∧ ∀ x, d = some x → Fr N t.pos x)) := by
 all_goals
  intros
  have hN := (‹St N _› : St N _).2.2
  first | unfold declM
  try simp only [nrmP, base]
  repeat' ((first
   | (intro x e; injection e with e; subst e)
   | (intro x e; cases e; done)
   | (with_reducible refine Hol.bind ((q_B hg _ ‹_› ).mono fun x ts' q => ?_); obtain ⟨h1, h2, h3, h4⟩ := q)
   | with_reducible exact hol_fail
   | with_reducible exact hol_oof
   | with_reducible refine hol_now fun t l ht hl => ?_
   | with_reducible refine hol_then fun t => ?_
   | with_reducible refine hol_closed fun t => ?_
   | with_reducible refine hol_next ‹_› fun t ts' ha hb hc hd => ?_
   | with_reducible refine hol_is ?_ ?_
   | with_reducible refine hol_take ‹_› (fun ts' h1 h2 h3 => ?_) ?_
   | with_reducible refine hol_must ‹_› fun ts' h1 h2 h3 => ?_
   | with_reducible refine hol_name ‹_› fun s ts' h1 h2 h3 => ?_
   | with_reducible refine hol_angle ‹_› fun ts' h1 h2 h3 => ?_
   | with_reducible refine hol_none ?_
   | with_reducible refine hol_empty ?_
   | with_reducible refine hol_bifb (fun hb => ?_) (fun hb => ?_)
   | with_reducible refine hol_bif (fun hb => ?_) (fun hb => ?_)
   | (with_reducible refine hol_g hg _ ‹_› (by simp only [preP]; try omega) fun x ts' h1 h2 h3 h4 => ?_; simp only [base] at h4)
   | with_reducible exact frs_nil
   | with_reducible exact fr_mono ‹_› (by omega)
   | with_reducible exact frs_mono ‹_› (by omega)
   | with_reducible exact fr_one
   | with_reducible refine fr_two ?_
   | with_reducible refine fr_node (by omega) (by omega) ?_
   | with_reducible refine frs_cons ?_ ?_
   | with_reducible refine frs_app ?_ ?_
   | with_reducible exact frs_mono (fr_kids ‹_›) (by omega)
   | refine hol_pure ⟨‹_›, by omega, by omega, ?_⟩
   | refine hol_lg hg _ ‹_› (fun _ => trivial) (fun _ => rfl) fun l ts' h1 h2 h3 h4 => ?_
   | (refine hol_g0 hg _ ‹_› (by first | trivial | (simp only [preP]; omega)) fun x ts' h1 h2 h3 h4 => ⟨h1, by omega, h3, fr_mono h4 ?_⟩; simp only [base]; omega)
   | refine hol_none0 ⟨‹_›, by omega, by omega, ?_⟩
   | refine hol_empty0 ⟨‹_›, by omega, by omega, ?_⟩
   | omega
   | trivial) <;> try simp only [nrmP, base])
theorem q_again (i : Nat) (sl : List Bs) (a : Int) : ∀ k x ts, St N ts → a ≤ lo ts → Fr N a x → Hol (againM g i sl a k x) ts (fun y ts' => St N ts' ∧ lo ts ≤ lo ts' ∧ lo ts' ≤ N ∧ Fr N a y) := by
 intro k
 induction k with
 | zero => intros; exact hol_oof
 | succ k ih =>
  intro x ts h p0 p1
  have hN := h.2.2
  unfold againM
  have h0 : Hol (pure x) ts (fun y ts' => St N ts' ∧ lo ts ≤ lo ts' ∧ lo ts' ≤ N ∧ Fr N a y) := hol_pure ⟨h, by omega, by omega, p1⟩
  refine hol_takeOne h (fun s ts' h1 h2 h3 => ?_) h0 sl
  dsimp only
  refine hol_bif (fun _ => ?_) fun _ => ?_
  · exact hol_g hg .typed h1 trivial fun y ts2 h4 h5 h6 h7 => (ih _ _ h4 (by omega) (fr_node (by omega) (by omega) (frs_cons p1 (frs_cons (fr_mono h7 (by simp only [base]; omega)) frs_nil)))).mono fun l ts' q => ⟨q.1, by have := q.2.1; omega, q.2.2⟩
  · exact hol_g hg (.level (i + 1)) h1 trivial fun y ts2 h4 h5 h6 h7 => (ih _ _ h4 (by omega) (fr_node (by omega) (by omega) (frs_cons p1 (frs_cons (fr_mono h7 (by simp only [base]; omega)) frs_nil)))).mono fun l ts' q => ⟨q.1, by have := q.2.1; omega, q.2.2⟩
theorem q_level (i : Nat) (h : St N ts) : Hol (levelM K g i) ts (postP N (.level i) ts) := by
 have hN := h.2.2
 unfold levelM
 cases sgn i with
 | none =>
  dsimp only
  exact hol_bif (fun _ => hol_g0 hg .unary h trivial fun x ts' h1 h2 h3 h4 => ⟨h1, h2, h3, h4⟩) fun _ => hol_oof
 | some sl =>
  dsimp only
  refine hol_now fun t l ht hl => ?_
  refine hol_g hg (.level (i + 1)) h trivial fun x ts' h1 h2 h3 h4 => ?_
  simp only [base] at h4
  exact (q_again hg i sl t.pos K x ts' h1 (by omega) (fr_mono h4 (by omega))).mono fun y ts2 q => ⟨q.1, by have := q.2.1; omega, q.2.2.1, fr_mono q.2.2.2 (by simp only [base]; omega)⟩
set_option maxHeartbeats 20000000 in
theorem q_rest : ∀ (t : Tk) ts, St N ts → t.pos ≤ lo ts → Hol (restM g t) ts (fun x ts' => St N ts' ∧ lo ts ≤ lo ts' ∧ lo ts' ≤ N ∧ Fr N t.pos x) := by
 intros
 have hN := (‹St N _› : St N _).2.2
 unfold restM
 try simp only [nrmP, base]
 repeat' ((first
  | with_reducible exact hol_fail
  | with_reducible exact hol_oof
  | with_reducible refine hol_now fun t l ht hl => ?_
  | with_reducible refine hol_then fun t => ?_
  | with_reducible refine hol_closed fun t => ?_
  | with_reducible refine hol_next ‹_› fun t ts' ha hb hc hd => ?_
  | with_reducible refine hol_is ?_ ?_
  | with_reducible refine hol_take ‹_› (fun ts' h1 h2 h3 => ?_) ?_
  | with_reducible refine hol_must ‹_› fun ts' h1 h2 h3 => ?_
  | with_reducible refine hol_name ‹_› fun s ts' h1 h2 h3 => ?_
  | with_reducible refine hol_angle ‹_› fun ts' h1 h2 h3 => ?_
  | with_reducible refine hol_none ?_
  | with_reducible refine hol_empty ?_
  | with_reducible refine hol_bifb (fun hb => ?_) (fun hb => ?_)
  | with_reducible refine hol_bif (fun hb => ?_) (fun hb => ?_)
  | (with_reducible refine hol_g hg _ ‹_› (by simp only [preP]; try omega) fun x ts' h1 h2 h3 h4 => ?_; simp only [base] at h4)
  | with_reducible exact frs_nil
  | with_reducible exact fr_mono ‹_› (by omega)
  | with_reducible exact frs_mono ‹_› (by omega)
  | with_reducible exact fr_one
  | with_reducible refine fr_two ?_
  | with_reducible refine fr_node (by omega) (by omega) ?_
  | with_reducible refine frs_cons ?_ ?_
  | with_reducible refine frs_app ?_ ?_
  | with_reducible exact frs_mono (fr_kids ‹_›) (by omega)
  | refine hol_pure ⟨‹_›, by omega, by omega, ?_⟩
  | refine hol_lg hg _ ‹_› (fun _ => trivial) (fun _ => rfl) fun l ts' h1 h2 h3 h4 => ?_
  | (refine hol_g0 hg _ ‹_› (by first | trivial | (simp only [preP]; omega)) fun x ts' h1 h2 h3 h4 => ⟨h1, by omega, h3, fr_mono h4 ?_⟩; simp only [base]; omega)
  | refine hol_none0 ⟨‹_›, by omega, by omega, ?_⟩
  | refine hol_empty0 ⟨‹_›, by omega, by omega, ?_⟩
  | omega
  | trivial) <;> try simp only [nrmP, base])
theorem q_ns : ∀ (b : Int) k acc ts, St N ts → b ≤ lo ts → Frs N b acc → Hol (nsM K g k acc) ts (fun l ts' => St N ts' ∧ lo ts ≤ lo ts' ∧ lo ts' ≤ N ∧ Frs N b l) := by
 intro b k
 induction k with
 | zero => intros; exact hol_oof
 | succ k ih =>
  intro acc ts h p0 p1
  have hN := h.2.2
  unfold nsM
  simp only [nrmP]
  refine hol_is ?_ ?_
  · simp only [nrmP]; exact hol_pure ⟨h, by omega, by omega, p1⟩
  simp only [nrmP]
  refine hol_now fun t l ht hl => ?_
  have key : ∀ ts1, St N ts1 → lo ts ≤ lo ts1 → lo ts1 ≤ N → Hol (nowM >>= fun u => declM K g u >>= fun d => match d with | none => failM | some x => bif x.kind == 47 && x.num == 1 then failM else nsM K g k (acc ++ [.node 50 [] 0 t.pos [x]])) ts1 (fun l ts' => St N ts' ∧ lo ts ≤ lo ts' ∧ lo ts' ≤ N ∧ Frs N b l) := fun ts1 h1 h2 h3 => by
   refine hol_now fun u l hu hl => ?_
   refine Hol.bind ((q_D hg u ts1 h1 (by omega)).mono fun d ts2 q => ?_)
   obtain ⟨q1, q2, q3, q4⟩ := q
   cases d with
   | none => exact hol_fail
   | some x =>
    exact hol_bif (fun _ => hol_fail) fun _ => (ih _ _ q1 (by omega) (frs_app p1 (frs_cons (fr_node (by omega) (by omega) (frs_cons (fr_mono (q4 x rfl) (by omega)) frs_nil)) frs_nil))).mono fun l ts' q => ⟨q.1, by have := q.2.1; omega, q.2.2⟩
  refine hol_take h (fun ts1 h1 h2 h3 => ?_) ?_
  · simp only [nrmP]
    refine hol_is ?_ ?_
    · simp only [nrmP]; exact hol_fail
    · simp only [nrmP]
      exact hol_now fun u l hu hl => hol_bif (fun _ => hol_fail) fun _ => key ts1 h1 h2 h3
  · simp only [nrmP]
    refine hol_g hg .statement h trivial fun x ts1 h1 h2 h3 h4 => ?_
    exact (ih _ _ h1 (by omega) (frs_app p1 (frs_cons (fr_mono h4 (by simp only [base]; omega)) frs_nil))).mono fun l ts' q => ⟨q.1, by have := q.2.1; omega, q.2.2⟩
theorem q_template : ∀ ts, St N ts → Hol (templateM K g) ts (postP N .template ts) := fun ts h => by
 unfold templateM
 refine hol_next h fun t ts1 h1 h2 h3 h4 => Hol.bind (((q_C hg).2.2.2.1 (lo ts) K _ _ ts1 h2 h3 (frs_cons (fr_node (by omega) (by omega) frs_nil) frs_nil)).mono fun l ts2 q => hol_pure ⟨q.1, by have := q.2.1; omega, q.2.2.1, ?_⟩)
 simp only [base]
 exact fr_node (by omega) (by omega) (frs_mono q.2.2.2 (by omega))
theorem q_typed : ∀ ts, St N ts → Hol (typedM K g) ts (postP N .typed ts) := fun ts h => by
 have hN := h.2.2
 unfold typedM
 refine hol_now fun t l ht hl => ?_
 have key : ∀ ts1, St N ts1 → lo ts ≤ lo ts1 → Hol (g .rows >>= fun x => isM [124] >>= fun b => bif !b then pure x else unionM g K [x] >>= fun l => pure (.node 87 [] 0 t.pos l)) ts1 (postP N .typed ts) := fun ts1 h1 h2 => by
  refine hol_g hg .rows h1 trivial fun x ts2 h3 h4 h5 h6 => ?_
  simp only [base] at h6
  refine hol_is ?_ ?_
  · refine Hol.bind (((q_C hg).2.2.2.2.2.2.2.2.1 (lo ts) K _ ts2 h3 (by omega) (frs_cons (fr_mono h6 (by omega)) frs_nil)).mono fun l ts3 q => hol_pure ⟨q.1, by have := q.2.1; omega, q.2.2.1, ?_⟩)
    simp only [base]
    exact fr_node (by omega) (by omega) (frs_mono q.2.2.2 (by omega))
  · exact hol_pure ⟨h3, by omega, h5, fr_mono h6 (by simp only [base]; omega)⟩
 exact hol_take h (fun ts1 h1 h2 h3 => key ts1 h1 h2) (key ts h (Int.le_refl _))
theorem q_statement : ∀ ts, St N ts → Hol (statementM K g) ts (postP N .statement ts) := fun ts h => by
 unfold statementM
 refine hol_now fun t l ht hl => hol_bif (fun _ => ?_) fun _ => (q_rest hg t ts h (by omega)).mono fun x ts2 p => ⟨p.1, p.2.1, p.2.2.1, fr_mono p.2.2.2 (by simp only [base]; omega)⟩
 refine Hol.bind ((q_D hg t ts h (by omega)).mono fun d ts' q => ?_)
 obtain ⟨q1, q2, q3, q4⟩ := q
 cases d with
 | none => exact (q_rest hg t ts' q1 (by omega)).mono fun x ts2 p => ⟨p.1, by have := p.2.1; omega, p.2.2.1, fr_mono p.2.2.2 (by simp only [base]; omega)⟩
 | some x => exact hol_pure ⟨q1, q2, q3, fr_mono (q4 x rfl) (by simp only [base]; omega)⟩
set_option maxHeartbeats 20000000 in
theorem q_F : (∀  ts, St N ts → Hol (exprM g) ts (postP N (.expr) ts)) ∧
 (∀ (a : Int) ts, St N ts → a ≤ lo ts → Hol (arrowedM K g a) ts (postP N (.arrowed a) ts)) ∧
 (∀  ts, St N ts → Hol (condM g) ts (postP N (.cond) ts)) ∧
 (∀  ts, St N ts → Hol (unaryM g) ts (postP N (.unary) ts)) ∧
 (∀  ts, St N ts → Hol (givenM K g) ts (postP N (.given) ts)) ∧
 (∀  ts, St N ts → Hol (postfM K g) ts (postP N (.postf) ts)) ∧
 (∀  ts, St N ts → Hol (primaryM K g) ts (postP N (.primary) ts)) ∧
 (∀ (t : Tk) ts, St N ts → t.pos = lo ts → Hol (wordedM K g t) ts (postP N (.worded t) ts)) ∧
 (∀  ts, St N ts → Hol (objectM K g) ts (postP N (.object) ts)) ∧
 (∀  ts, St N ts → Hol (blockM K g) ts (postP N (.block) ts)) ∧
 (∀  ts, St N ts → Hol (roundM g) ts (postP N (.round) ts)) ∧
 (∀ (kk a : Int) (m : Bool) ts, St N ts → a ≤ lo ts → Hol (endedM g kk a m) ts (postP N (.ended kk a m) ts)) ∧
 (∀  ts, St N ts → Hol (branchM g) ts (postP N (.branch) ts)) ∧
 (∀ (a : Int) ts, St N ts → a ≤ lo ts → Hol (loopM g a) ts (postP N (.loop a) ts)) ∧
 (∀ (m a : Int) ts, St N ts → a ≤ lo ts → Hol (variablM g m a) ts (postP N (.variabl m a) ts)) ∧
 (∀ (a : Int) ts, St N ts → a ≤ lo ts → Hol (triM g a) ts (postP N (.tri a) ts)) ∧
 (∀ (kk a : Int) ts, St N ts → a ≤ lo ts → Hol (functioM K g kk a) ts (postP N (.functio kk a) ts)) ∧
 (∀ (a : Int) ts, St N ts → a ≤ lo ts → Hol (clasM K g a) ts (postP N (.clas a) ts)) ∧
 (∀  ts, St N ts → Hol (partM g) ts (postP N (.part) ts)) ∧
 (∀ (m a : Int) ts, St N ts → a ≤ lo ts → Hol (enuM K g m a) ts (postP N (.enu m a) ts)) ∧
 (∀ (a : Int) ts, St N ts → a ≤ lo ts → Hol (namespacM K g a) ts (postP N (.namespac a) ts)) ∧
 (∀  ts, St N ts → Hol (rowsM K g) ts (postP N (.rows) ts)) ∧
 (∀  ts, St N ts → Hol (plainM g) ts (postP N (.plain) ts)) ∧
 (∀  ts, St N ts → Hol (arrowTypeM g) ts (postP N (.arrowType) ts)) ∧
 (∀  ts, St N ts → Hol (refM K g) ts (postP N (.ref) ts)) ∧
 (∀ (w : Bs) ts, St N ts → Hol (refsM K g w) ts (postP N (.refs w) ts)) ∧
 (∀  ts, St N ts → Hol (argsM K g) ts (postP N (.args) ts)) ∧
 (∀  ts, St N ts → Hol (optionalM g) ts (postP N (.optional) ts)) ∧
 (∀  ts, St N ts → Hol (objectTypeM K g) ts (postP N (.objectType) ts)) ∧
 (∀  ts, St N ts → Hol (pieceM g) ts (postP N (.piece) ts)) ∧
 (∀ (m : Bool) ts, St N ts → Hol (paramsM K g m) ts (postP N (.params m) ts)) := by
 refine ⟨?_, ?_, ?_, ?_, ?_, ?_, ?_, ?_, ?_, ?_, ?_, ?_, ?_, ?_, ?_, ?_, ?_, ?_, ?_, ?_, ?_, ?_, ?_, ?_, ?_, ?_, ?_, ?_, ?_, ?_, ?_⟩
 all_goals
  intros
  have hN := (‹St N _› : St N _).2.2
  first | unfold exprM arrowM | unfold arrowedM | unfold condM | unfold unaryM | unfold givenM | unfold postfM | unfold primaryM | unfold wordedM | unfold objectM | unfold blockM | unfold roundM | unfold endedM | unfold branchM | unfold loopM | unfold variablM | unfold triM | unfold functioM | unfold clasM | unfold partM | unfold enuM | unfold namespacM | unfold rowsM | unfold plainM | unfold arrowTypeM | unfold refM | unfold refsM | unfold argsM | unfold optionalM | unfold objectTypeM | unfold pieceM | unfold paramsM
  try simp only [nrmP, base]
  repeat' ((first
   | (with_reducible refine Hol.bind ((q_B hg _ ‹_› ).mono fun x ts' q => ?_); obtain ⟨h1, h2, h3, h4⟩ := q)
   | (with_reducible refine Hol.bind (((q_A hg).2.2 _ _ ‹_›).mono fun x ts' q => ?_); obtain ⟨h1, h2, h3, h4⟩ := q)
   | (with_reducible refine Hol.bind (((q_C hg).2.1 _ _ _ _ ‹_› (by omega) (fr_node (by omega) (by omega) frs_nil)).mono fun x ts' q => ?_); obtain ⟨h1, h2, h3, h4⟩ := q)
   | (with_reducible refine Hol.bind (((q_C hg).2.2.2.2.2.2.2.2.2.2.2 0 _ _ _ ‹_› trivial trivial).mono fun x ts' q => ?_); obtain ⟨h1, h2, h3, h4⟩ := q)
   | (with_reducible refine Hol.bind (((q_C hg).2.2.2.2.1 _ _ _ _ ‹_› (Int.le_refl _) frs_nil).mono fun x ts' q => ?_); obtain ⟨h1, h2, h3, h4⟩ := q)
   | (with_reducible refine Hol.bind (((q_C hg).2.2.2.2.2.1 _ _ _ _ ‹_› (Int.le_refl _) frs_nil).mono fun x ts' q => ?_); obtain ⟨h1, h2, h3, h4⟩ := q)
   | (with_reducible refine Hol.bind (((q_C hg).2.2.2.2.2.2.2.1 _ _ _ _ ‹_› (Int.le_refl _) frs_nil).mono fun x ts' q => ?_); obtain ⟨h1, h2, h3, h4⟩ := q)
   | (with_reducible refine Hol.bind (((q_C hg).2.2.2.2.2.2.2.2.2.1 _ _ _ _ ‹_› (Int.le_refl _) frs_nil).mono fun x ts' q => ?_); obtain ⟨h1, h2, h3, h4⟩ := q)
   | (with_reducible refine Hol.bind (((q_C hg).2.2.2.2.2.2.1 _ _ _ _ _ ‹_› (Int.le_refl _) frs_nil).mono fun x ts' q => ?_); obtain ⟨h1, h2, h3, h4⟩ := q)
   | (with_reducible refine Hol.bind ((q_ns hg _ _ _ _ ‹_› (Int.le_refl _) frs_nil).mono fun x ts' q => ?_); obtain ⟨h1, h2, h3, h4⟩ := q)
   | with_reducible exact hol_fail
   | with_reducible exact hol_oof
   | with_reducible refine hol_now fun t l ht hl => ?_
   | with_reducible refine hol_then fun t => ?_
   | with_reducible refine hol_closed fun t => ?_
   | with_reducible refine hol_next ‹_› fun t ts' ha hb hc hd => ?_
   | with_reducible refine hol_is ?_ ?_
   | with_reducible refine hol_take ‹_› (fun ts' h1 h2 h3 => ?_) ?_
   | with_reducible refine hol_must ‹_› fun ts' h1 h2 h3 => ?_
   | with_reducible refine hol_name ‹_› fun s ts' h1 h2 h3 => ?_
   | with_reducible refine hol_angle ‹_› fun ts' h1 h2 h3 => ?_
   | with_reducible refine hol_none ?_
   | with_reducible refine hol_empty ?_
   | with_reducible refine hol_bifb (fun hb => ?_) (fun hb => ?_)
   | with_reducible refine hol_bif (fun hb => ?_) (fun hb => ?_)
   | (with_reducible refine hol_g hg _ ‹_› (by simp only [preP]; try omega) fun x ts' h1 h2 h3 h4 => ?_; simp only [base] at h4)
   | with_reducible exact frs_nil
   | with_reducible exact fr_mono ‹_› (by omega)
   | with_reducible exact frs_mono ‹_› (by omega)
   | with_reducible exact fr_one
   | with_reducible refine fr_two ?_
   | with_reducible refine fr_node (by omega) (by omega) ?_
   | with_reducible refine frs_cons ?_ ?_
   | with_reducible refine frs_app ?_ ?_
   | with_reducible exact frs_mono (fr_kids ‹_›) (by omega)
   | refine hol_pure ⟨‹_›, by omega, by omega, ?_⟩
   | refine hol_lg hg _ ‹_› (fun _ => trivial) (fun _ => rfl) fun l ts' h1 h2 h3 h4 => ?_
   | (refine hol_g0 hg _ ‹_› (by first | trivial | (simp only [preP]; omega)) fun x ts' h1 h2 h3 h4 => ⟨h1, by omega, h3, fr_mono h4 ?_⟩; simp only [base]; omega)
   | refine hol_none0 ⟨‹_›, by omega, by omega, ?_⟩
   | refine hol_empty0 ⟨‹_›, by omega, by omega, ?_⟩
   | omega
   | trivial
   | refine hol_list0 ‹_› ((q_A hg).2.1 _) fun l ts' h1 h2 h3 h4 => ⟨h1, h2, h3, ?_⟩
   | refine ((q_C hg).1 _ _ _ _ ‹_› ?_ ?_).mono fun y ts2 q => ⟨q.1, by have := q.2.1; omega, q.2.2.1, fr_mono q.2.2.2 (by simp only [base]; omega)⟩
   | refine ((q_C hg).2.2.1 _ _ _ _ ‹_› ?_ ?_).mono fun y ts2 q => ⟨q.1, by have := q.2.1; omega, q.2.2.1, fr_mono q.2.2.2 (by simp only [base]; omega)⟩) <;> try simp only [nrmP, base])
end
theorem gq_gr (N : Int) (K : Nat) : ∀ n, GQ N (gr K n)
 | 0 => fun nt ts h hp => hol_oof
 | n + 1 => fun nt ts h hp => by
  have hg := gq_gr N K n
  obtain ⟨c0, c1, c2, c3, c4, c5, c6, c7, c8, c9, c10, c11, c12, c13, c14, c15, c16, c17, c18, c19, c20, c21, c22, c23, c24, c25, c26, c27, c28, c29, c30⟩ := q_F hg
  show Hol (stepM K (gr K n) nt) ts _
  cases nt with
  | statement => exact q_statement hg ts h
  | typed => exact q_typed hg ts h
  | template => exact q_template hg ts h
  | level i => exact q_level hg i h
  | expr => exact c0 ts h
  | arrowed a => exact c1 a ts h hp
  | cond => exact c2 ts h
  | unary => exact c3 ts h
  | given => exact c4 ts h
  | postf => exact c5 ts h
  | primary => exact c6 ts h
  | worded t => exact c7 t ts h hp
  | object => exact c8 ts h
  | block => exact c9 ts h
  | round => exact c10 ts h
  | ended k a m => exact c11 k a m ts h hp
  | branch => exact c12 ts h
  | loop a => exact c13 a ts h hp
  | variabl m a => exact c14 m a ts h hp
  | tri a => exact c15 a ts h hp
  | functio k a => exact c16 k a ts h hp
  | clas a => exact c17 a ts h hp
  | part => exact c18 ts h
  | enu m a => exact c19 m a ts h hp
  | namespac a => exact c20 a ts h hp
  | rows => exact c21 ts h
  | plain => exact c22 ts h
  | arrowType => exact c23 ts h
  | ref => exact c24 ts h
  | refs w => exact c25 w ts h
  | args => exact c26 ts h
  | optional => exact c27 ts h
  | objectType => exact c28 ts h
  | piece => exact c29 ts h
  | params m => exact c30 m ts h
/-- a program's tree stands as it should -/
theorem run_fr {N : Int} {K n : Nat} {ts : List Tk} {whole : Nat} (h : St N ts) : Hol (runM K (gr K n) whole) ts fun x _ => Fr N 0 x := by
 have hg := gq_gr N K n
 have hN := h.2.2
 have h0 : 0 ≤ lo ts := h.2.1
 unfold runM
 refine hol_bifb (fun _ => ?_) fun _ => ?_
 · simp only [nrmP]
   refine Hol.bind (((q_C hg).2.2.2.2.2.2.2.2.2.2.1 0 K [] ts h h0 frs_nil).mono fun l ts' q => ?_)
   exact hol_now fun t r _ _ => hol_bif (fun _ => hol_fail) fun _ => hol_pure (fr_node (Int.le_refl _) (by omega) q.2.2.2)
 · refine hol_bifb (fun _ => ?_) fun _ => ?_
   · exact hol_g hg .expr h trivial fun x ts' h1 h2 h3 h4 => hol_now fun t r _ _ => hol_bif (fun _ => hol_fail) fun _ => hol_pure (fr_mono h4 h0)
   · exact hol_g hg .typed h trivial fun x ts' h1 h2 h3 h4 => hol_now fun t r _ _ => hol_bif (fun _ => hol_fail) fun _ => hol_pure (fr_mono h4 h0)
end Go.Px
