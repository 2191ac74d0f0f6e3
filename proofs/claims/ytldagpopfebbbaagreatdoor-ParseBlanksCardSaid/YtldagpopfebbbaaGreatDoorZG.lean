/- Lists of owned things; arrays opened; rows of cells; slices cut short. -/
import Derived.Test.YtldagpopfebbbaaGreatDoorZD
import Derived.Test.YtldagpopfebbbaaGreatDoorZA
import Derived.Test.YtldagpopfebbbaaGreatDoorZF
set_option linter.unusedVariables false
set_option linter.unusedSimpArgs false
namespace Go.Proofs
open Go.Px Tryz
attribute [local semireducible] WL WC At WD
def Star {α β : Type} (A : α → β → HP) : List α → List β → HP
 | [], [] => fun _ => True
 | a :: xs, b :: bs => All [A a b, Star A xs bs]
 | _, _ => fun _ => False
theorem star_nil {α β : Type} {A : α → β → HP} (Γ : List HP) : Ent Γ (Star A [] [] :: Γ) := fun h s => ⟨fun _ => none, h, fun b => .inl ⟨rfl, rfl⟩, trivial, s⟩
theorem star_len {α β : Type} {A : α → β → HP} : ∀ {xs : List α} {bs : List β} {h : Hp}, Star A xs bs h → xs.length = bs.length
 | [], [], _, _ => rfl
 | [], _ :: _, _, p => p.elim
 | _ :: _, [], _, p => p.elim
 | _ :: xs, _ :: bs, h, p => by
  obtain ⟨h1, h2, d, _, h3, h4, d2, p, _⟩ := p
  simp [star_len p]
theorem star_app {α β : Type} {A : α → β → HP} : ∀ (xs : List α) (bs : List β) {xs2 : List α} {bs2 : List β} {Γ : List HP}, Ent (Star A xs bs :: Star A xs2 bs2 :: Γ) (Star A (xs ++ xs2) (bs ++ bs2) :: Γ)
 | [], [], _, _, _ => fun h s => sep_drop s
 | [], _ :: _, _, _, _ => fun h s => by obtain ⟨_, _, _, p, _⟩ := s; exact p.elim
 | _ :: _, [], _, _, _ => fun h s => by obtain ⟨_, _, _, p, _⟩ := s; exact p.elim
 | a :: xs, b :: bs, xs2, bs2, Γ => fun h s => by
  have s := ent_all [A a b, Star A xs bs] _ h s
  have s := sep_tail (fun h s => star_app xs bs h s) s
  exact all_ent [A a b, Star A (xs ++ xs2) (bs ++ bs2)] _ h s
theorem star_split {α β : Type} {A : α → β → HP} : ∀ (xs : List α) {xs2 : List α} {bs : List β} {Γ : List HP}, Ent (Star A (xs ++ xs2) bs :: Γ) (Pr (xs.length + xs2.length = bs.length) :: Star A xs (bs.take xs.length) :: Star A xs2 (bs.drop xs.length) :: Γ)
 | [], xs2, bs, Γ => fun h s => by
  have hl : xs2.length = bs.length := by obtain ⟨_, _, _, p, _⟩ := s; exact star_len p
  exact ent_pure (by simpa using hl) _ h (star_nil _ h s)
 | a :: xs, xs2, [], Γ => fun h s => by obtain ⟨_, _, _, p, _⟩ := s; exact p.elim
 | a :: xs, xs2, b :: bs, Γ => fun h s => by
  have s := ent_all [A a b, Star A (xs ++ xs2) bs] _ h s
  have s := sep_tail (fun h s => star_split xs h s) s
  have s := sep_swap s
  have hl := sep_pure s
  have s := sep_drop s
  have s := all_ent [A a b, Star A xs (bs.take xs.length)] _ h s
  exact ent_pure (by simp only [List.length_cons]; omega) _ h s
theorem star_one {α β : Type} {A : α → β → HP} {a : α} {b : β} {Γ : List HP} : Ent (A a b :: Γ) (Star A [a] [b] :: Γ) := fun h s =>
 all_ent [A a b, Star A [] []] Γ h (sep_tail (fun h s => star_nil Γ h s) s)
theorem tns_star : ∀ (ts : List PT) (qs : List Nat), TNs ts qs = Star TN ts qs
 | [], [] => by unfold TNs Star; rfl
 | [], _ :: _ => by unfold TNs Star; rfl
 | _ :: _, [] => by unfold TNs Star; rfl
 | t :: ts, q :: qs => by rw [TNs_cons_eq, tns_star ts qs]; rfl
section
variable {n : Nat} {Q : Post} {ρ : Env} {ds : List Deferred} {Γ Γ' F F0 X : List HP} {ops : Array Oper} {rest : List Oper} {t : Tmp} {d : Option Tmp} {ty : TypeId} {pos : String} {af : Array Edge} {gd : Option (Nat × Bool)}
theorem WC.openArr {c : Code} {T : TypeId} {sz m : Nat} {s : Option Addr × Nat × Nat} {xs : List Value} (hs : Sel Γ (Arr T sz (slV s) m xs) F) (hm : 0 < m)
 (h : ∀ b cap sp, s = (some ⟨b, 0, none⟩, m, cap) → m ≤ cap → cap ≤ maxLen → (xs ++ sp).length = cap * sz → xs.length = m * sz → WC prog n c Q ρ ds (Cl b T (xs ++ sp) :: F)) : WC prog n c Q ρ ds Γ := fun w q => by
 have q := q.mono hs.ent
 obtain ⟨h1, h2, dj, ⟨hl, p⟩, q⟩ := q
 rcases p with ⟨_, h0⟩ | ⟨b, cap, sp, e, h3, h4, h5, p⟩
 · omega
 obtain ⟨s1, s2, s3⟩ := s
 have e : Value.slice s1 s2 s3 = .slice (some ⟨b, 0, none⟩) m cap := e
 injection e with e1 e2 e3
 subst e1 e2 e3
 exact h b s3 sp rfl h3 h4 h5 hl w ⟨h1, h2, dj, p, q⟩
theorem closeArr {T : TypeId} {sz m b cap : Nat} {xs sp : List Value} (h1 : m ≤ cap) (h2 : cap ≤ maxLen) (h3 : (xs ++ sp).length = cap * sz) (h4 : xs.length = m * sz) :
 Ent (Cl b T (xs ++ sp) :: Γ) (Arr T sz (.slice (some ⟨b, 0, none⟩) m cap) m xs :: Γ) := Ent.head fun h p => ⟨h4, .inr ⟨b, cap, sp, rfl, h1, h2, h3, p⟩⟩
theorem arr_snd {T : TypeId} {sz m : Nat} {s : Option Addr × Nat × Nat} {xs : List Value} {h : Hp} (p : Arr T sz (slV s) m xs h) : s.2.1 = m ∧ xs.length = m * sz := by
 obtain ⟨h1, ⟨e, h0⟩ | ⟨b, cap, sp, e, _⟩⟩ := p
 · obtain ⟨s1, s2, s3⟩ := s
   have e : Value.slice s1 s2 s3 = .slice none 0 0 := e
   cases e
   exact ⟨h0.symm, h1⟩
 obtain ⟨s1, s2, s3⟩ := s
 have e : Value.slice s1 s2 s3 = .slice (some ⟨b, 0, none⟩) m cap := e
 cases e
 exact ⟨rfl, h1⟩
theorem rd_lenSV {x : Operand} {T E : TypeId} {s : Option Addr × Nat × Nat} {k : Int} (hU : ∀ w, (underlying T).run prog w = .ok (.slice E) w) (hx : evE n ρ x = slV s) (hk : (s.2.1 : Int) = k) :
 Rd prog n ρ ⟨d, .call ⟨.builtin .len, #[x], #[T]⟩, ty, pos, af, gd⟩ Γ (.int .i64 k) := by
 subst hk; exact rd_lenS hU hx
theorem rd_idxN {x y : Operand} {T E : TypeId} {b j len cap sz o : Nat} {i : Int} {k : IntKind} (hU : ∀ w, (underlying T).run prog w = .ok (.slice E) w) (hS : ∀ w, (sizeOf E).run prog w = .ok sz w)
 (hx : evE n ρ x = .slice (some ⟨b, 0, none⟩) len cap) (hy : evE n ρ y = .int k i) (hi : i = (j : Int)) (h1 : j < len) (ho : j * sz = o) :
 Rd prog n ρ ⟨d, .indexAddr T x y, ty, pos, af, gd⟩ Γ (.pointer (some ⟨b, o, none⟩)) := by
 subst hi ho
 have := rd_indexAddr (P := prog) (d := d) (ty := ty) (pos := pos) (af := af) (gd := gd) (Γ := Γ) hU hS hx hy (by omega) (by omega)
 simpa using this
theorem rd_sliceHi {x y : Operand} {T E : TypeId} {b j len cap sz : Nat} {i : Int} {k : IntKind} (hU : ∀ w, (underlying T).run prog w = .ok (.slice E) w) (hS : ∀ w, (sizeOf E).run prog w = .ok sz w)
 (hx : evE n ρ x = .slice (some ⟨b, 0, none⟩) len cap) (hy : evE n ρ y = .int k i) (hi : i = (j : Int)) (h1 : j ≤ cap) :
 Rd prog n ρ ⟨d, .slice T x none (some y) none, ty, pos, af, gd⟩ Γ (.slice (some ⟨b, 0, none⟩) j cap) := fun w _ => by
 subst hi
 have e : ((0 : Int) ≤ (j : Int) ∧ (j : Int) ≤ (cap : Int)) := ⟨Int.natCast_nonneg j, by omega⟩
 simp only [execOp, Instr.sliceAt, Instr.slice, Instr.sliceBounds, Instr.sliceBound, hx, hy, asIntOf, Sem.run_bind, Sem.run_pure, Result.andThen_ok, hU, hS, Option.map_some, Option.map_none, if_pos e, Int.toNat_natCast]
 simp [Addr.add]
theorem put_set (v : Value) : ∀ (l : List Value) (o : Nat), o < l.length → Put l o [v] (l.set o v)
 | [], o, h => by simp at h
 | a :: l, 0, _ => .put .done
 | a :: l, o + 1, h => .skip (put_set v l o (by simpa using h))
theorem ef_storeAt {x y : Operand} {T E : TypeId} {b o : Nat} {l : List Value} {v : Value} (hS : ∀ w, (sizeOf T).run prog w = .ok 1 w) (hx : evE n ρ x = .pointer (some ⟨b, o, none⟩)) (hy : evE n ρ y = v) (h1 : isOne v = true)
 (hs : Sel Γ (Cl b E l) Γ') (ho : o < l.length) : Ef0 prog n ρ ⟨d, .store T x y, ty, pos, af, gd⟩ Γ (Cl b E (l.set o v) :: Γ') := by
 have hv : v.cells = [v].toArray := cells_one h1
 have hp : Put l o [v] (l.set o v) := put_set v l o ho
 exact ef_store hS hx hy hv rfl (by simp [h1]) hs hp
end
theorem rows_len {sz : Nat} : ∀ {rows : List (List Value)}, (∀ r ∈ rows, r.length = sz) → rows.flatten.length = rows.length * sz
 | [], _ => by simp
 | r :: rows, h => by
  have ih := rows_len (sz := sz) (rows := rows) fun x hx => h x (List.mem_cons_of_mem _ hx)
  have hr := h r (List.mem_cons_self ..)
  rw [List.flatten_cons, List.length_append, ih, hr, List.length_cons, Nat.add_mul]; omega
theorem rows_get {sz : Nat} {sp : List Value} : ∀ {rows : List (List Value)} {i : Nat} {r : List Value}, (∀ r ∈ rows, r.length = sz) → rows[i]? = some r → ((rows.flatten ++ sp).drop (i * sz)).take sz = r
 | [], i, r, _, h => by simp at h
 | r0 :: rows, 0, r, hl, h => by
  obtain rfl : r0 = r := by simpa using h
  have := hl r0 (List.mem_cons_self ..)
  simp [List.take_left' this, ← this]
 | r0 :: rows, i + 1, r, hl, h => by
  have h0 := hl r0 (List.mem_cons_self ..)
  have := rows_get (sz := sz) (sp := sp) (rows := rows) (i := i) (r := r) (fun x hx => hl x (List.mem_cons_of_mem _ hx)) (by simpa using h)
  rw [List.flatten_cons, List.append_assoc, show (i + 1) * sz = r0.length + i * sz by rw [h0, Nat.add_mul]; omega, ← List.drop_drop, List.drop_left]
  exact this
theorem rows_cell {sz : Nat} {sp : List Value} {rows : List (List Value)} {i j : Nat} {r : List Value} {v : Value} (hl : ∀ r ∈ rows, r.length = sz) (h : rows[i]? = some r) (hj : r[j]? = some v) : (rows.flatten ++ sp)[i * sz + j]? = some v := by
 have hg := rows_get (sp := sp) hl h
 have hjl := (List.getElem?_eq_some_iff.1 hj).1
 have hr := hl r (List.mem_of_getElem? h)
 rw [← hg, List.getElem?_take, if_pos (by omega), List.getElem?_drop] at hj
 exact hj
theorem rows_set {sz : Nat} {sp : List Value} {v : Value} : ∀ {rows : List (List Value)} {i j : Nat} {r : List Value}, (∀ r ∈ rows, r.length = sz) → rows[i]? = some r → j < sz → (rows.flatten ++ sp).set (i * sz + j) v = (rows.set i (r.set j v)).flatten ++ sp
 | [], i, j, r, _, h, _ => by simp at h
 | r0 :: rows, 0, j, r, hl, h, hj => by
  obtain rfl : r0 = r := by simpa using h
  have := hl r0 (List.mem_cons_self ..)
  rw [List.flatten_cons, List.append_assoc, Nat.zero_mul, Nat.zero_add, List.set_append_left _ _ (by omega)]
  simp
 | r0 :: rows, i + 1, j, r, hl, h, hj => by
  have h0 := hl r0 (List.mem_cons_self ..)
  have ih := rows_set (sz := sz) (sp := sp) (v := v) (rows := rows) (i := i) (j := j) (r := r) (fun x hx => hl x (List.mem_cons_of_mem _ hx)) (by simpa using h) hj
  rw [List.flatten_cons, List.append_assoc, show (i + 1) * sz + j = r0.length + (i * sz + j) by rw [h0, Nat.add_mul]; omega, List.set_append_right _ _ (by omega), Nat.add_sub_cancel_left, ih]
  simp
end Go.Proofs

namespace Go.Px
structure FN where
 kind : Int
 text : Bs
 num : Int
 kids : List Int
 at_ : Int
def PT.text : PT → Bs
 | .node _ s _ _ _ => s
mutual
def PT.size : PT → Nat
 | .node _ _ _ _ l => sizes l + 1
def sizes : List PT → Nat
 | [] => 0
 | t :: l => t.size + sizes l
end
def addKid (fs : List FN) (i : Nat) (a : Int) : List FN := match fs[i]? with
 | some f => fs.set i { f with kids := f.kids ++ [a] }
 | none => fs
def layK : Nat → List (PT × Int) → List FN → List FN
 | 0, _, fs => fs
 | _ + 1, [], fs => fs
 | k + 1, (t, p) :: st, fs =>
  layK k (t.kids.map (fun c => (c, (fs.length : Int))) ++ st)
   (bif decide (0 ≤ p) then addKid (fs ++ [⟨t.kind, t.text, t.num, [], t.pos⟩]) p.toNat fs.length else fs ++ [⟨t.kind, t.text, t.num, [], t.pos⟩])
theorem addKid_length (fs : List FN) (i : Nat) (a : Int) : (addKid fs i a).length = fs.length := by
 unfold addKid
 split <;> simp
theorem sizes_append : ∀ (a b : List PT), sizes (a ++ b) = sizes a + sizes b
 | [], b => by simp [sizes]
 | t :: a, b => by rw [List.cons_append, sizes, sizes, sizes_append a b]; omega
def layInv (R : List FN) (N k : Nat) (st : List (PT × Int)) (fs : List FN) : Prop :=
 layK k st fs = R ∧ sizes (st.map (·.1)) ≤ k ∧ fs.length + k ≤ N ∧ st.length ≤ k ∧ (∀ x ∈ st, -1 ≤ x.2 ∧ x.2 < (fs.length : Int)) ∧ ∀ f ∈ fs, f.kids.length + k ≤ N
theorem size_pos : ∀ t : PT, 1 ≤ t.size
 | .node _ _ _ _ l => by unfold PT.size; omega
theorem len_sizes : ∀ l : List PT, l.length ≤ sizes l
 | [] => by simp [sizes]
 | t :: l => by have := size_pos t; have := len_sizes l; rw [sizes, List.length_cons]; omega
theorem layInv_first (t : PT) : layInv (layK t.size [(t, -1)] []) t.size t.size [(t, -1)] [] :=
 ⟨rfl, by simp [sizes], by simp, size_pos t, fun x hx => by
  obtain rfl : x = (t, -1) := by simpa using hx
  show (-1 : Int) ≤ -1 ∧ (-1 : Int) < ((0 : Nat) : Int)
  omega, fun f hf => by simp at hf⟩
theorem layInv_end {R : List FN} {N k : Nat} {fs : List FN} (h : layInv R N k [] fs) : fs = R := by
 obtain ⟨h, _⟩ := h
 cases k <;> exact h
theorem layInv_step {R : List FN} {N k : Nat} {t : PT} {p : Int} {st : List (PT × Int)} {fs : List FN} (h : layInv R N k ((t, p) :: st) fs) :
 ∃ k', k = k' + 1 ∧ layInv R N k' (t.kids.map (fun c => (c, (fs.length : Int))) ++ st)
  (bif decide (0 ≤ p) then addKid (fs ++ [⟨t.kind, t.text, t.num, [], t.pos⟩]) p.toNat fs.length else fs ++ [⟨t.kind, t.text, t.num, [], t.pos⟩]) := by
 obtain ⟨h1, h2, h3, h4, h5, h9⟩ := h
 have hp := size_pos t
 obtain ⟨kk, s, n, a, l⟩ := t
 simp only [List.map_cons, sizes, PT.size] at h2
 obtain ⟨k', rfl⟩ : ∃ k', k = k' + 1 := ⟨k - 1, by omega⟩
 refine ⟨k', rfl, ?_⟩
 generalize hX : (bif decide (0 ≤ p) then addKid (fs ++ [⟨kk, s, n, [], a⟩]) p.toNat fs.length else fs ++ [⟨kk, s, n, [], a⟩]) = X
 have hXl : X.length = fs.length + 1 := by
  subst hX
  cases decide (0 ≤ p) with
  | true => rw [cond_true, addKid_length]; simp
  | false => rw [cond_false]; simp
 have hL : layK k' (l.map (fun c => (c, (fs.length : Int))) ++ st) X = R := by rw [← h1, ← hX]; rfl
 have hm : (l.map (fun c => (c, (fs.length : Int))) ++ st).map (·.1) = l ++ st.map (·.1) := by simp [List.map_map, Function.comp_def]
 refine ⟨?_, ?_, ?_, ?_, ?_, ?_⟩
 · show layK k' (l.map (fun c => (c, (fs.length : Int))) ++ st) (bif decide (0 ≤ p) then addKid (fs ++ [⟨kk, s, n, [], a⟩]) p.toNat fs.length else fs ++ [⟨kk, s, n, [], a⟩]) = R
   rw [hX]; exact hL
 · show sizes ((l.map (fun c => (c, (fs.length : Int))) ++ st).map (·.1)) ≤ k'
   rw [hm, sizes_append]; omega
 · show (bif decide (0 ≤ p) then addKid (fs ++ [⟨kk, s, n, [], a⟩]) p.toNat fs.length else fs ++ [⟨kk, s, n, [], a⟩]).length + k' ≤ N
   rw [hX]; omega
 · show (l.map (fun c => (c, (fs.length : Int))) ++ st).length ≤ k'
   have h6 := len_sizes l
   have h7 := len_sizes (st.map (·.1))
   simp only [List.length_map, List.length_append] at h7 ⊢
   omega
 · show ∀ x ∈ l.map (fun c => (c, (fs.length : Int))) ++ st, -1 ≤ x.2 ∧ x.2 < ((bif decide (0 ≤ p) then addKid (fs ++ [⟨kk, s, n, [], a⟩]) p.toNat fs.length else fs ++ [⟨kk, s, n, [], a⟩]).length : Int)
   rw [hX]
   intro x hx
   rcases List.mem_append.1 hx with hx | hx
   · obtain ⟨c, _, rfl⟩ := List.mem_map.1 hx
     simp only; omega
   have := h5 x (List.mem_cons_of_mem _ hx); omega
 show ∀ f ∈ (bif decide (0 ≤ p) then addKid (fs ++ [⟨kk, s, n, [], a⟩]) p.toNat fs.length else fs ++ [⟨kk, s, n, [], a⟩]), f.kids.length + k' ≤ N
 have h0 : ∀ f ∈ fs ++ [(⟨kk, s, n, [], a⟩ : FN)], f.kids.length + (k' + 1) ≤ N := fun f hf => by
  rcases List.mem_append.1 hf with hf | hf
  · exact h9 f hf
  obtain rfl : f = ⟨kk, s, n, [], a⟩ := by simpa using hf
  show 0 + (k' + 1) ≤ N
  omega
 cases decide (0 ≤ p) with
 | false => rw [cond_false]; intro f hf; have := h0 f hf; omega
 | true =>
  rw [cond_true]
  intro f hf
  unfold addKid at hf
  split at hf
  rotate_left 1
  · have := h0 f hf; omega
  rename_i g hg
  rcases List.mem_or_eq_of_mem_set hf with hf | hf
  · have := h0 f hf; omega
  subst hf
  have := h0 g (List.mem_of_getElem? hg)
  show (g.kids ++ [_]).length + k' ≤ N
  simp only [List.length_append, List.length_cons, List.length_nil]; omega
end Go.Px

namespace Go.Proofs
open Go.Px Tryz
attribute [local semireducible] WL WC At WD
abbrev SV := Option Addr × Nat × Nat
theorem star_consE {α β : Type} {A : α → β → HP} {a : α} {xs : List α} {bs : List β} {Γ : List HP} :
 Ent (Star A (a :: xs) bs :: Γ) ((Ex fun b => Ex fun bs' => All [Pr (bs = b :: bs'), A a b, Star A xs bs']) :: Γ) := fun h s => by
 match bs with
 | [] => obtain ⟨_, _, _, p, _⟩ := s; exact p.elim
 | b :: bs' =>
  have s := ent_all [A a b, Star A xs bs'] Γ h s
  have s := ent_pure (p := b :: bs' = b :: bs') rfl _ h s
  have s := all_ent [Pr (b :: bs' = b :: bs'), A a b, Star A xs bs'] Γ h s
  have s := ent_ex (A := fun c' => All [Pr (b :: bs' = b :: c'), A a b, Star A xs c']) bs' Γ h s
  exact ent_ex (A := fun c => Ex fun c' => All [Pr (b :: bs' = c :: c'), A a c, Star A xs c']) b Γ h s
theorem star_cons {α β : Type} {A : α → β → HP} {a : α} {b : β} {xs : List α} {bs : List β} {Γ : List HP} : Ent (A a b :: Star A xs bs :: Γ) (Star A (a :: xs) (b :: bs) :: Γ) := fun h s => all_ent [A a b, Star A xs bs] Γ h s
def srows (st : List (PT × Int)) (qs : List Nat) : List (List Value) := (List.zipWith (fun (x : PT × Int) q => [ptr q, .int .i64 x.2]) st qs).reverse
def SK (st : List (PT × Int)) (s : SV) : HP := Ex fun qs : List Nat => All [Arr 151 2 (slV s) st.length (srows st qs).flatten, Star TN (st.map (·.1)) qs]
def KA (f : FN) (s : SV) : HP := Arr 3 1 (slV s) f.kids.length (f.kids.map (.int .i64 ·))
def nrow (f : FN) (s : SV) : List Value := [.int .i64 f.kind, .string (bs f.text), .int .i64 f.num, slV s, .int .i64 f.at_]
def nrows (fs : List FN) (ss : List SV) : List (List Value) := List.zipWith nrow fs ss
def NL (fs : List FN) (sn : SV) : HP := Ex fun ss : List SV => All [Arr 39 5 (slV sn) fs.length (nrows fs ss).flatten, Star KA fs ss]
def ND (b : Nat) (fs : List FN) : HP := Ex fun sn : SV => All [Cl b 26 [slV sn], NL fs sn]
theorem srows_row (st : List (PT × Int)) (qs : List Nat) : ∀ r ∈ srows st qs, r.length = 2 := fun r h => by
 unfold srows at h
 rw [List.mem_reverse] at h
 obtain ⟨i, hi, rfl⟩ := List.mem_iff_getElem.1 h
 simp
theorem nrows_row : ∀ (fs : List FN) (ss : List SV), ∀ r ∈ nrows fs ss, r.length = 5 := fun fs ss r h => by
 unfold nrows at h
 obtain ⟨i, hi, rfl⟩ := List.mem_iff_getElem.1 h
 simp [nrow]
theorem srows_cons (t : PT) (p : Int) (st : List (PT × Int)) (q : Nat) (qs : List Nat) : srows ((t, p) :: st) (q :: qs) = srows st qs ++ [[ptr q, .int .i64 p]] := by simp [srows]
theorem sk_len {st : List (PT × Int)} {s : SV} {Γ F : List HP} (hs : Sel Γ (SK st s) F) : ∀ h, sep Γ h → s.2.1 = st.length := fun h q => by
 have q := hs.ent h q
 obtain ⟨qs, q⟩ := sep_ex q
 have q := ent_all [_, _] _ h q
 obtain ⟨_, _, _, p, _⟩ := q
 exact (arr_snd p).1
theorem nl_len {fs : List FN} {sn : SV} {Γ F : List HP} (hs : Sel Γ (NL fs sn) F) : ∀ h, sep Γ h → sn.2.1 = fs.length := fun h q => by
 have q := hs.ent h q
 obtain ⟨qs, q⟩ := sep_ex q
 have q := ent_all [_, _] _ h q
 obtain ⟨_, _, _, p, _⟩ := q
 exact (arr_snd p).1
theorem nrows_snoc {fs : List FN} {ss : List SV} (h : fs.length = ss.length) (f : FN) (s : SV) : nrows (fs ++ [f]) (ss ++ [s]) = nrows fs ss ++ [nrow f s] := by
 unfold nrows
 rw [List.zipWith_append h]; rfl
section
variable {n : Nat} {Q : Post} {ρ : Env} {ds : List Deferred} {Γ Γ' F F0 X : List HP} {ops : Array Oper} {rest : List Oper} {t : Tmp} {d : Option Tmp} {ty : TypeId} {pos : String} {af : Array Edge} {gd : Option (Nat × Bool)}
theorem WC.openSK {c : Code} {t : PT} {p : Int} {st : List (PT × Int)} {s : SV} (hs : Sel Γ (SK ((t, p) :: st) s) F)
 (h : ∀ b cap sp q qs, s = (some ⟨b, 0, none⟩, st.length + 1, cap) → st.length + 1 ≤ cap → cap ≤ maxLen → ((srows st qs).flatten ++ [ptr q, .int .i64 p] ++ sp).length = cap * 2 → st.length = qs.length →
  WC prog n c Q ρ ds (Cl b 151 ((srows st qs).flatten ++ [ptr q, .int .i64 p] ++ sp) :: TN t q :: Star TN (st.map (·.1)) qs :: F)) : WC prog n c Q ρ ds Γ :=
 WC.ent hs.ent (WC.ex fun qs0 => WC.ent (ent_all [_, _] F) (WC.ent (fun h s => sep_swap s) (WC.ent star_consE (WC.ex fun q => WC.ex fun qs => WC.ent (ent_all [_, _, _] _) (WC.pure fun e => by
  subst e
  refine WC.know (p := st.length = qs.length) (fun h s => ?_) fun hl => ?_
  · have s := sep_drop s
    obtain ⟨_, _, _, p, _⟩ := s
    simpa using star_len p
  refine WC.openArr (.succ (.succ .zero)) (by simp) fun b cap sp e h1 h2 h3 h4 => ?_
  rw [srows_cons, List.flatten_append, show [[ptr q, Value.int .i64 p]].flatten = [ptr q, .int .i64 p] from rfl] at h3 ⊢
  exact h b cap sp q qs e h1 h2 h3 hl)))))
theorem closeSK {b cap : Nat} {p : Int} {q : Nat} {st : List (PT × Int)} {qs : List Nat} {sp : List Value} (h1 : st.length + 1 ≤ cap) (h2 : cap ≤ maxLen) (h3 : ((srows st qs).flatten ++ [ptr q, .int .i64 p] ++ sp).length = cap * 2) (hl : st.length = qs.length) :
 Ent (Cl b 151 ((srows st qs).flatten ++ [ptr q, .int .i64 p] ++ sp) :: Star TN (st.map (·.1)) qs :: Γ) (SK st (some ⟨b, 0, none⟩, st.length, cap) :: Γ) := fun h s => by
 have hr : (srows st qs).length = st.length := by simp [srows, hl]
 have hx : (srows st qs).flatten.length = st.length * 2 := by rw [rows_len (srows_row st qs), hr]
 rw [List.append_assoc] at s
 have s := closeArr (m := st.length) (cap := cap) (xs := (srows st qs).flatten) (sp := [ptr q, .int .i64 p] ++ sp) (by omega) h2 (by rw [← List.append_assoc]; exact h3) hx h s
 exact ent_ex (A := fun qs : List Nat => All [Arr 151 2 (slV (some ⟨b, 0, none⟩, st.length, cap)) st.length (srows st qs).flatten, Star TN (st.map (·.1)) qs]) qs _ h (all_ent [_, _] _ h s)
theorem Tryz.info151 : prog.info? 151 = some t151 := by kernel_rfl
theorem Tryz.info39 : prog.info? 39 = some t39 := by kernel_rfl
theorem Tryz.info3 : prog.info? 3 = some t3 := by kernel_rfl
theorem Ef.post {α : Type} {o : Oper} {v : α → Value} {Γ1 Γ2 : α → List HP} (h : Ef prog n ρ o Γ v Γ1) (e : ∀ a, Ent (Γ1 a) (Γ2 a)) : Ef prog n ρ o Γ v Γ2 := fun w s => by
 obtain ⟨a, w', h1, h2⟩ := h w s
 exact ⟨a, w', h1, h2.mono (e a)⟩
theorem Ef.pre {α : Type} {o : Oper} {v : α → Value} {Γ0 : List HP} {Γ2 : α → List HP} (e : Ent Γ Γ0) (h : Ef prog n ρ o Γ0 v Γ2) : Ef prog n ρ o Γ v Γ2 := fun w s => h w (s.mono e)
theorem Ef.ex {α β : Type} {o : Oper} {v : α → Value} {A : β → HP} {Γ2 : α → List HP} (h : ∀ x, Ef prog n ρ o (A x :: Γ) v Γ2) : Ef prog n ρ o (Ex A :: Γ) v Γ2 := fun w s => by
 obtain ⟨x, s⟩ := sep_ex s; exact h x w s
theorem Ef.know {α : Type} {o : Oper} {v : α → Value} {Γ2 : α → List HP} {p : Prop} (k : ∀ h, sep Γ h → p) (h : p → Ef prog n ρ o Γ v Γ2) : Ef prog n ρ o Γ v Γ2 := fun w s => h (k _ s) w s
theorem ef_push {x y : Operand} {st : List (PT × Int)} {s : SV} {b2 q : Nat} {c : PT} {a : Int} (hx : evE n ρ x = slV s) (hy : evE n ρ y = .slice (some ⟨b2, 0, none⟩) 1 1) (hs : Sels Γ [SK st s, Cl b2 151 [ptr q, .int .i64 a], TN c q] F) (hb : st.length ≤ 1099511627776) :
 Ef prog n ρ ⟨d, .call ⟨.builtin .append, #[x, y], #[152, 152]⟩, ty, pos, af, gd⟩ Γ slV (fun s' => SK ((c, a) :: st) s' :: F) :=
 Ef.pre hs.ent (Ef.ex fun qs => Ef.pre (ent_all [_, _] _) (Ef.know (p := st.length = qs.length) (fun h s => by
  have s := sep_drop s
  obtain ⟨_, _, _, p, _⟩ := s
  simpa using star_len p) fun hl => by
  refine Ef.post (ef_append (e := 151) (z := .agg #[.pointer none, .int .i64 0]) (sz := 2) (bytes := 16) (m := st.length) (m2 := 1) (c2 := 1) (o2 := 0) (news := [ptr q, .int .i64 a]) underlying152 info151 rfl rfl rfl rfl (by decide) (by decide) hx hy .zero (.succ .zero) rfl rfl rfl (by omega)) fun s' => ?_
  intro h p
  have e : srows ((c, a) :: st) (q :: qs) = srows st qs ++ [[ptr q, .int .i64 a]] := srows_cons c a st q qs
  have p : sep (Arr 151 2 (slV s') (st.length + 1) ((srows st qs).flatten ++ [ptr q, .int .i64 a]) :: Cl b2 151 [ptr q, .int .i64 a] :: Star TN (st.map (·.1)) qs :: TN c q :: F) h := p
  have p := sep_tail (fun h p => sep_swap (sep_drop p)) p
  have p := sep_tail (fun h p => star_cons h p) p
  rw [show (srows st qs).flatten ++ [ptr q, .int .i64 a] = (srows ((c, a) :: st) (q :: qs)).flatten from by rw [e, List.flatten_append]; rfl] at p
  exact ent_ex (A := fun qs : List Nat => All [Arr 151 2 (slV s') ((c, a) :: st).length (srows ((c, a) :: st) qs).flatten, Star TN ((((c, a) :: st) : List (PT × Int)).map (fun x : PT × Int => x.1)) qs]) (q :: qs) F h (all_ent [_, _] F h p)))
theorem ef_node {x y : Operand} {fs : List FN} {sn : SV} {b2 : Nat} {f : FN} (hx : evE n ρ x = slV sn) (hy : evE n ρ y = .slice (some ⟨b2, 0, none⟩) 1 1) (hf : f.kids = [])
 (hs : Sels Γ [NL fs sn, Cl b2 39 [.int .i64 f.kind, .string (bs f.text), .int .i64 f.num, .slice none 0 0, .int .i64 f.at_]] F) (hb : fs.length ≤ 1099511627776) :
 Ef prog n ρ ⟨d, .call ⟨.builtin .append, #[x, y], #[24, 24]⟩, ty, pos, af, gd⟩ Γ slV (fun s' => NL (fs ++ [f]) s' :: F) :=
 Ef.pre hs.ent (Ef.ex fun ss => Ef.pre (ent_all [_, _] _) (Ef.know (p := fs.length = ss.length) (fun h s => by
  have s := sep_drop s
  obtain ⟨_, _, _, p, _⟩ := s
  exact star_len p) fun hl => by
  refine Ef.post (ef_append (e := 39) (z := .agg #[.int .i64 0, .string (bs []), .int .i64 0, .slice none 0 0, .int .i64 0]) (sz := 5) (bytes := 64) (m := fs.length) (m2 := 1) (c2 := 1) (o2 := 0) (news := [.int .i64 f.kind, .string (bs f.text), .int .i64 f.num, .slice none 0 0, .int .i64 f.at_]) underlying24 info39 rfl rfl rfl rfl (by decide) (by decide) hx hy .zero (.succ .zero) rfl rfl rfl (by omega)) fun s' => ?_
  intro h p
  have p : sep (Arr 39 5 (slV s') (fs.length + 1) ((nrows fs ss).flatten ++ nrow f (none, 0, 0)) :: Cl b2 39 _ :: Star KA fs ss :: F) h := p
  have p := sep_tail (fun h p => sep_drop p) p
  have p := sep_tail (fun h p => by
   have p1 := arr_nil 3 1 _ h p
   have p2 : sep (KA f (none, 0, 0) :: Star KA fs ss :: F) h := by
    unfold KA; rw [hf]; exact p1
   exact star_app fs ss h (sep_swap (star_one h p2))) p
  rw [show (nrows fs ss).flatten ++ nrow f (none, 0, 0) = (nrows (fs ++ [f]) (ss ++ [(none, 0, 0)])).flatten from by rw [nrows_snoc hl, List.flatten_append]; simp, show fs.length + 1 = (fs ++ [f]).length from by simp] at p
  exact ent_ex (A := fun ss : List SV => All [Arr 39 5 (slV s') (fs ++ [f]).length (nrows (fs ++ [f]) ss).flatten, Star KA (fs ++ [f]) ss]) (ss ++ [(none, 0, 0)]) F h (all_ent [_, _] F h p)))
theorem WC.openKid {c : Code} {fs : List FN} {sn : SV} {i : Nat} (hs : Sel Γ (NL fs sn) F) (hi : i < fs.length)
 (h : ∀ b cap sp ss f si, sn = (some ⟨b, 0, none⟩, fs.length, cap) → fs.length ≤ cap → cap ≤ maxLen → ((nrows fs ss).flatten ++ sp).length = cap * 5 → fs.length = ss.length → fs[i]? = some f → ss[i]? = some si → (nrows fs ss)[i]? = some (nrow f si) →
  WC prog n c Q ρ ds (Cl b 39 ((nrows fs ss).flatten ++ sp) :: Arr 3 1 (slV si) f.kids.length (f.kids.map (.int .i64 ·)) :: Star KA (fs.take i) (ss.take i) :: Star KA (fs.drop (i + 1)) (ss.drop (i + 1)) :: F)) : WC prog n c Q ρ ds Γ :=
 WC.ent hs.ent (WC.ex fun ss => WC.ent (ent_all [_, _] F) (WC.know (p := fs.length = ss.length) (fun h s => by
  have s := sep_drop s
  obtain ⟨_, _, _, p, _⟩ := s
  exact star_len p) fun hl => by
  refine WC.openArr .zero (by omega) fun b cap sp e h1 h2 h3 h4 => ?_
  have hfi : fs[i]? = some fs[i] := List.getElem?_eq_getElem hi
  have hsi : ss[i]? = some (ss[i]'(by omega)) := List.getElem?_eq_getElem (by omega)
  have hfs : fs = fs.take i ++ (fs[i] :: fs.drop (i + 1)) := by rw [← List.drop_eq_getElem_cons hi, List.take_append_drop]
  have hss : ss.drop i = ss[i]'(by omega) :: ss.drop (i + 1) := List.drop_eq_getElem_cons (by omega)
  refine WC.ent (fun h s => ?_) (h b cap sp ss fs[i] (ss[i]'(by omega)) e h1 h2 h3 hl hfi hsi (by unfold nrows; rw [List.getElem?_zipWith, hfi, hsi]))
  refine sep_tail (fun h s => ?_) s
  have s : sep (Star KA (fs.take i ++ (fs[i] :: fs.drop (i + 1))) ss :: F) h := by rw [← hfs]; exact s
  have s := star_split _ h s
  have s := sep_drop s
  rw [List.length_take, Nat.min_eq_left (by omega), hss] at s
  have s := sep_swap s
  have s := ent_all [KA fs[i] (ss[i]'(by omega)), Star KA (fs.drop (i + 1)) (ss.drop (i + 1))] _ h s
  have s := sep_tail (fun h s => sep_swap s) s
  exact s))
theorem closeKid {fs : List FN} {ss : List SV} {f : FN} {si s' : SV} {i b cap : Nat} {sp : List Value} {a : Int} (h1 : fs.length ≤ cap) (h2 : cap ≤ maxLen) (h3 : ((nrows fs ss).flatten ++ sp).length = cap * 5) (hl : fs.length = ss.length) (hf : fs[i]? = some f) (hsi : ss[i]? = some si)
 (hr : (nrows fs ss)[i]? = some (nrow f si)) :
 Ent (Cl b 39 (((nrows fs ss).flatten ++ sp).set (i * 5 + 3) (slV s')) :: Arr 3 1 (slV s') (f.kids.length + 1) (f.kids.map (.int .i64 ·) ++ [.int .i64 a]) :: Star KA (fs.take i) (ss.take i) :: Star KA (fs.drop (i + 1)) (ss.drop (i + 1)) :: Γ)
  (NL (addKid fs i a) (some ⟨b, 0, none⟩, fs.length, cap) :: Γ) := fun h s => by
 obtain ⟨hi, hfi⟩ := List.getElem?_eq_some_iff.1 hf
 have hfs' : addKid fs i a = fs.set i { f with kids := f.kids ++ [a] } := by unfold addKid; rw [hf]
 have hrows : (nrows fs ss).set i ((nrow f si).set 3 (slV s')) = nrows (fs.set i { f with kids := f.kids ++ [a] }) (ss.set i s') := by
  unfold nrows
  apply List.ext_getElem?
  intro j
  by_cases hj : i = j
  · subst hj
    rw [List.getElem?_set_self (by simp; omega), List.getElem?_zipWith, List.getElem?_set_self hi, List.getElem?_set_self (by omega)]
    rfl
  rw [List.getElem?_set_ne hj, List.getElem?_zipWith, List.getElem?_zipWith, List.getElem?_set_ne hj, List.getElem?_set_ne hj]
 rw [rows_set (sz := 5) (nrows_row fs ss) hr (by omega), hrows] at s
 have hlen : (nrows (fs.set i { f with kids := f.kids ++ [a] }) (ss.set i s')).length = fs.length := by simp [nrows, hl]
 have hx := rows_len (nrows_row (fs.set i { f with kids := f.kids ++ [a] }) (ss.set i s'))
 rw [hlen] at hx
 have hx0 := rows_len (nrows_row fs ss)
 have hl0 : (nrows fs ss).length = fs.length := by simp [nrows, hl]
 rw [hl0] at hx0
 have s := closeArr (m := fs.length) (cap := cap) h1 h2 (by rw [List.length_append, hx]; rw [List.length_append, hx0] at h3; exact h3) hx h s
 have s := sep_tail (fun h s => by
  have s : sep (KA { f with kids := f.kids ++ [a] } s' :: Star KA (fs.take i) (ss.take i) :: Star KA (fs.drop (i + 1)) (ss.drop (i + 1)) :: Γ) h := by
   unfold KA
   show sep (Arr 3 1 (slV s') (f.kids ++ [a]).length ((f.kids ++ [a]).map (.int .i64 ·)) :: _) h
   rw [List.map_append, List.length_append]
   exact s
  have s := sep_swap s
  have s := sep_tail (fun h s => star_cons h s) s
  exact star_app (fs.take i) (ss.take i) h s) s
 have e1 : fs.take i ++ ({ f with kids := f.kids ++ [a] } :: fs.drop (i + 1)) = fs.set i { f with kids := f.kids ++ [a] } := (List.set_eq_take_append_cons_drop ..).symm ▸ by rw [if_pos hi]
 have e2 : ss.take i ++ (s' :: ss.drop (i + 1)) = ss.set i s' := by rw [List.set_eq_take_append_cons_drop, if_pos (by omega)]
 rw [e2] at s
 have s : sep (Arr 39 5 (.slice (some ⟨b, 0, none⟩) fs.length cap) fs.length (nrows (fs.set i { f with kids := f.kids ++ [a] }) (ss.set i s')).flatten :: Star KA (fs.set i { f with kids := f.kids ++ [a] }) (ss.set i s') :: Γ) h := by rw [← e1]; rw [← e1] at s; exact s
 rw [hfs']
 have s : sep (Arr 39 5 (slV (some ⟨b, 0, none⟩, fs.length, cap)) (fs.set i { f with kids := f.kids ++ [a] }).length (nrows (fs.set i { f with kids := f.kids ++ [a] }) (ss.set i s')).flatten :: Star KA (fs.set i { f with kids := f.kids ++ [a] }) (ss.set i s') :: Γ) h := by rw [List.length_set]; exact s
 exact ent_ex (A := fun ss : List SV => All [Arr 39 5 (slV (some ⟨b, 0, none⟩, fs.length, cap)) (fs.set i { f with kids := f.kids ++ [a] }).length (nrows (fs.set i { f with kids := f.kids ++ [a] }) ss).flatten, Star KA (fs.set i { f with kids := f.kids ++ [a] }) ss]) (ss.set i s') Γ h (all_ent [_, _] Γ h s)
theorem top_get {A sp : List Value} {x y : Value} {m : Nat} (h : A.length = m * 2) : ((A ++ [x, y] ++ sp).drop (m * 2)).take 2 = [x, y] := by
 rw [List.append_assoc, ← h, List.drop_left]; rfl
theorem srows_flat {st : List (PT × Int)} {qs : List Nat} (h : st.length = qs.length) : (srows st qs).flatten.length = st.length * 2 := by
 rw [rows_len (srows_row st qs)]; simp [srows, h]
theorem kid_off {l : List PT} {qs : List Nat} {j q : Nat} {c : PT} (hc : l[j]? = some c) (hq : qs[j]? = some q) : Ent (Star TN (l.take (j + 1)) (qs.take (j + 1)) :: Γ) (TN c q :: Star TN (l.take j) (qs.take j) :: Γ) := fun h s => by
 obtain ⟨h1, h2⟩ := List.getElem?_eq_some_iff.1 hc
 obtain ⟨h3, h4⟩ := List.getElem?_eq_some_iff.1 hq
 rw [show l.take (j + 1) = l.take j ++ [c] from by rw [List.take_add_one, hc]; rfl] at s
 have s := star_split _ h s
 have s := sep_drop s
 rw [List.length_take, Nat.min_eq_left (by omega), List.take_take, Nat.min_eq_left (by omega), show (qs.take (j + 1)).drop j = [q] from by rw [List.drop_take, List.drop_eq_getElem_cons h3, h4]; simp] at s
 have s := sep_swap s
 exact sep_tail (fun h s => s) (ent_all [TN c q, Star TN [] []] _ h s |> fun s => sep_tail (fun h s => sep_drop s) s)
theorem sk_next {l : List PT} {st : List (PT × Int)} {j : Nat} {c : PT} {a : Int} (hc : l[j]? = some c) : (c, a) :: ((l.drop (j + 1)).map (fun c => (c, a)) ++ st) = (l.drop j).map (fun c => (c, a)) ++ st := by
 obtain ⟨h1, h2⟩ := List.getElem?_eq_some_iff.1 hc
 rw [List.drop_eq_getElem_cons h1, h2]; rfl
end
end Go.Proofs

namespace Go.Proofs
open Go.Px Tryz
section
variable {pb tb cap K : Nat} {L : List Tk} {g : NT → M PT}
theorem sk_first {Γ F1 F2 : List HP} {b q : Nat} {t : PT} (h1 : Sel Γ (Cl b 151 [ptr q, Iv (-1)]) F1) (h2 : Sel F1 (TN t q) F2) : Ent Γ (SK [(t, -1)] (some ⟨b, 0, none⟩, 1, 1) :: F2) := fun h s => by
 have s := h1.ent h s
 have s := sep_tail (fun h s => star_one h (h2.ent h s)) s
 have s := arr_of_cl (T := 151) (sz := 2) (m := 1) (by decide) rfl _ h s
 exact ent_ex (A := fun qs : List Nat => All [Arr 151 2 (slV (some ⟨b, 0, none⟩, 1, 1)) 1 (srows [(t, -1)] qs).flatten, Star TN [t] qs]) [q] F2 h (all_ent [_, _] F2 h s)
theorem nd_close {Γ F : List HP} {b : Nat} {fs : List FN} {sn : SV} (h : Ent Γ (Cl b 26 [slV sn] :: NL fs sn :: F)) : Ent Γ (ND b fs :: F) := fun hp s =>
 ent_ex (A := fun sn : SV => All [Cl b 26 [slV sn], NL fs sn]) sn F hp (all_ent [_, _] F hp (h hp s))
theorem nd_first {Γ F : List HP} {b : Nat} (h : Sel Γ (Cl b 26 [.slice none 0 0]) F) : Ent Γ (ND b [] :: F) := nd_close (sn := (none, 0, 0)) fun hp s => by
 have s := h.ent hp s
 refine sep_tail (fun hp s => ?_) s
 have s := arr_nil 39 5 _ hp (star_nil (A := KA) _ hp s)
 exact ent_ex (A := fun ss : List SV => All [Arr 39 5 (slV (none, 0, 0)) 0 (nrows [] ss).flatten, Star KA [] ss]) [] F hp (all_ent [_, _] F hp s)
theorem kd_len {l : List PT} {v : SV} {Γ F : List HP} (hs : Sel Γ (KD l (slV v)) F) : ∀ h, sep Γ h → v.2.1 = l.length := fun h q => by
 have q := hs.ent h q
 obtain ⟨qs, q⟩ := sep_ex q
 have q := ent_all [_, _] _ h q
 obtain ⟨_, _, _, p, q⟩ := q
 obtain ⟨_, _, _, p2, _⟩ := q
 rw [(arr_snd p).1]; exact (tns_len _ _ _ p2).symm
theorem c_laid {t0 : PT} {q0 : Nat} (hsz : t0.size ≤ 1099511627776) : ∀ F w, Sat (TN t0 q0 :: F) w → Calls prog 90 [ptr q0].toArray w fun e w' => ∃ sn, e = .returned (.agg [slV sn].toArray) ∧ Sat (NL (layK t0.size [(t0, -1)] []) sn :: F) w' := by
 intro F
 refine calls_of_WC (fn := f90) func90 rfl rfl (Sr (WL_ef (ef_alloc (l := [.slice none 0 0]) zeroValue26 rfl) fun b1 => Ny (WL_ef (ef_alloc (l := [.slice none 0 0]) zeroValue26 rfl) fun b2 => Nz (Mv (ptr q0) (WL_rd (rd_build (vs := [(0, ptr q0), (1, Iv (-1))]) (v := .agg #[ptr q0, Iv (-1)]) rfl (bd151_0_1 _ _ rfl rfl )) (WL_ef (ef_buildSlice (E := 151) (vs := [(0, .agg #[ptr q0, Iv (-1)])]) (l := [ptr q0, Iv (-1)]) rfl (bs152_1 _ _ )) fun b3 => Av (Sl b3 1 1) (Nt (WC_block (WC.ent (sk_first (b := b3) (q := q0) Z0 Z2) (WC.ent (nd_first Z1) (WC_loopF (α := Nat × List (PT × Int) × List FN × SV) (fun x => layInv (layK t0.size [(t0, -1)] []) t0.size x.1 x.2.1 x.2.2.1) (fun x => [(2, ptr b1), (3, ptr b2), (4, slV x.2.2.2)]) (fun x => SK x.2.1 x.2.2.2 :: ND b2 x.2.2.1 :: Cl b1 26 [.slice none 0 0] :: F) (fun x => x.1) (t0.size, [(t0, -1)], [], (some ⟨b3, 0, none⟩, 1, 1)) (layInv_first t0) ⟨rfl, rfl, rfl, trivial⟩ (E3 Z1 Z0 Z0) ?_)))))))))))
 rintro ⟨k, st, fs, s⟩ σ hinv
 replace hinv : layInv (layK t0.size [(t0, -1)] []) t0.size k st fs := hinv
 show WC prog _ _ _ (upds σ [(2, ptr b1), (3, ptr b2), (4, slV s)]) _ (SK st s :: ND b2 fs :: Cl b1 26 [.slice none 0 0] :: F)
 rcases st with _ | ⟨⟨t, p⟩, st⟩
 · have hR := layInv_end hinv
   refine WC.know (sk_len Z0) fun hs0 => WC.ent (Sel.ent Z1) (WC.ex fun sn => WC.ent (ent_all [_, _] _) (WC.know (nl_len Z1) fun hsn => Sz (Mv (slV s) (WL_rd (rd_lenSV (k := 0) runUnderlying152 rfl (by rw [hs0]; rfl)) (Bo (Iv 0) (Iv 0) (.bool false) eqg_int (by rw [binOp_gtr]; rfl) (Nt (WC_false rfl (WC_exit (At_thenX (At_loopX (At_blockX (At_then (Sr (WL_rd (rd_loadN (b := b2) (o := 0) (vs := [slV sn]) isAgg26 sizeOf26 rfl Z0 rfl rfl) (Sa b1 0 [slV sn] sizeOf26 Z3 (.put .done) (Nr ?_))))))))))))))))
   refine At_retC results90 isAgg26 sizeOf26 rfl Z0 rfl (fun w q => ⟨sn, rfl, ?_⟩)
   rw [← hR]
   exact q.mono (En Z2 D3)
 obtain ⟨k', rfl, hnext⟩ := layInv_step hinv
 obtain ⟨_, hi2, hi3, hi4, hi5, hi9⟩ := id hinv
 have hp5 := hi5 (t, p) (List.mem_cons_self ..)
 simp only at hp5
 simp only [List.length_cons] at hi4
 refine WC.openSK Z0 fun b cp sp q qs es h1 h2 h3 hlq => ?_
 subst es
 obtain ⟨kk, sx, nx, ax, lx⟩ := t
 simp only [PT.kind, PT.text, PT.num, PT.kids, PT.pos] at hnext
 have hn4 := hnext.2.2.2.1
 simp only [List.length_append, List.length_map, PT.kids] at hn4
 refine WC.openN Z1 fun v4 => WC.know (kd_len Z1) fun hvx => WC.ent (Sel.ent Z4) (WC.ex fun sn => WC.ent (ent_all [_, _] _) (WC.know (nl_len Z1) fun hsn => Sz (Mv (Sl b (st.length + 1) cp) (WL_rd (rd_lenS (a := (some ⟨b, 0, none⟩)) (k := (st.length + 1)) runUnderlying152 rfl) (Bo (Iv ((st.length + 1) : Nat)) (Iv 0) (.bool true) eqg_int (by rw [binOp_gtr]; rw [show decide (((st.length + 1 : Nat) : Int) > 0) = true from by simp only [decide_eq_true_eq]; omega]) (Nt (WC_true rfl (WC_skip (At_then (WC_block (Sr (Mv (Sl b (st.length + 1) cp) (Mv (Sl b (st.length + 1) cp) (WL_rd (rd_lenS (a := (some ⟨b, 0, none⟩)) (k := (st.length + 1)) runUnderlying152 rfl) (Bo (Iv ((st.length + 1) : Nat)) (Iv 1) (Iv (((st.length : Nat) : Int))) eqg_int (by rw [show ((st.length : Nat) : Int) = (((st.length + 1) : Nat) : Int) - 1 from by omega]; exact bin_sub (by omega) (by omega)) (WL_rd (rd_idxN (j := st.length) (o := st.length * 2) runUnderlying152 sizeOf151 rfl rfl rfl (by omega) rfl) (WL_rd (rd_loadN (b := b) (o := st.length * 2) (vs := [ptr q, Iv p]) isAgg151 sizeOf151 rfl Z4 (top_get (srows_flat hlq)) rfl) (WL_ef (ef_alloc (l := [.pointer none, Iv 0]) zeroValue151 rfl) fun b5 => Sa b5 0 [ptr q, Iv p] sizeOf151 Z0 (.put (.put .done)) (Ny (Mv (Sl b (st.length + 1) cp) (Mv (Sl b (st.length + 1) cp) (WL_rd (rd_lenS (a := (some ⟨b, 0, none⟩)) (k := (st.length + 1)) runUnderlying152 rfl) (Bo (Iv ((st.length + 1) : Nat)) (Iv 1) (Iv (((st.length : Nat) : Int))) eqg_int (by rw [show ((st.length : Nat) : Int) = (((st.length + 1) : Nat) : Int) - 1 from by omega]; exact bin_sub (by omega) (by omega)) (WL_rd (rd_sliceHi (j := st.length) runUnderlying152 sizeOf151 rfl rfl rfl (by omega)) (Av (Sl b st.length cp) (Nt (WC_seq (WC.ent (Sels.ent (K2 (.succ Z4) (.succ Z4))) (WC.ent (closeSK h1 h2 h3 hlq) (WC_region (Fa b2 0 fa26_0 (Lo b2 0 (slV sn) isAgg24 Z2 rfl (WL_rd (rd_lenSV (k := ((fs.length : Nat) : Int)) runUnderlying24 rfl (by rw [hsn])) (Av (Iv fs.length) ?_))))))))))))))))))))))))))))))))))
 refine Nt (WC_seq (WC_draw [9, 10] [Cl b2 26 [slV sn], Cl b5 151 [ptr q, Iv p], Cl q 122 [Iv kk, Tx sx, Iv nx, .slice none 0 0, Iv ax, slV v4]] mixed (Dt 0 rfl rfl (Q0 (K3 Z2 Z1 Z2)) (Rf b2 0 fa26_0 rfl) (Dt 1 rfl rfl (Q0 (K3 Z2 Z1 Z2)) (Rl b2 0 (slV sn) isAgg24 rfl Z0 rfl) (Dt 2 rfl rfl (Q0 (K3 Z2 Z1 Z2)) (Rf b5 0 fa151_0 rfl) (Dt 3 rfl rfl (Q0 (K3 Z2 Z1 Z2)) (Rl b5 0 (ptr q) isAgg118 rfl Z1 rfl) (Dt 4 rfl rfl (Q0 (K3 Z2 Z1 Z2)) (Rn q 0 rfl) (Dt 5 rfl rfl (Q0 (K3 Z2 Z1 Z2)) (Rf q 0 fa122_0 rfl) (Dt 6 rfl rfl (Q0 (K3 Z2 Z1 Z2)) (rd_loadN (b := q) (o := 0) (vs := [Iv kk, Tx sx, Iv nx, .slice none 0 0, Iv ax]) isAgg39 sizeOf39 rfl Z2 rfl rfl) (WD_ef 7 (by kernel_rfl) rfl rfl rfl (ef_buildSlice (E := 39) (vs := [(0, .agg #[Iv kk, Tx sx, Iv nx, .slice none 0 0, Iv ax])]) (l := [Iv kk, Tx sx, Iv nx, .slice none 0 0, Iv ax]) rfl (bs24_1 _ _ _ _ _ )) (fun _ _ => Q0 (K3 Z3 Z2 Z3)) fun b6 => WD_ef 8 (by kernel_rfl) rfl rfl rfl (ef_node (f := ⟨kk, sx, nx, [], ax⟩) rfl rfl rfl (K2 Z4 Z0) (by omega)) (fun _ _ => Q0 (K3 Z3 Z2 Z2)) fun v7 => WD_rd 9 (by kernel_rfl) rfl rfl rfl (Rf b2 0 fa26_0 rfl) (late_vac (i := 9) (by kernel_rfl) (by decide)) (WD_ef0 10 (by kernel_rfl) rfl rfl rfl (ef_store (b := b2) (o := 0) (v := slV v7) (vs := [slV v7]) sizeOf24 rfl rfl rfl rfl rfl Z3 (.put .done)) (late_vac (i := 10) (by kernel_rfl) (by decide)) ?_)))))))))))
 refine WD_done (by kernel_rfl) ?_ _
 refine At_then (WC_seq (WC_seq ?_))
 generalize hFS : fs ++ [(⟨kk, sx, nx, [], ax⟩ : FN)] = FS at hnext ⊢
 have hFl : FS.length = fs.length + 1 := by rw [← hFS]; simp
 have hFk : ∀ f ∈ FS, f.kids.length + (k' + 1) ≤ t0.size := fun f hf => by
  rw [← hFS] at hf
  rcases List.mem_append.1 hf with hf | hf
  · exact hi9 f hf
  obtain rfl : f = ⟨kk, sx, nx, [], ax⟩ := by simpa using hf
  show 0 + (k' + 1) ≤ t0.size; omega
 refine WC_region (Fa b5 0 fa151_1 (Lo b5 1 (Iv p) isAgg3 Z3 rfl (Bo (Iv p) (Iv 0) (.bool (decide (p ≥ 0))) eqg_int (binOp_geq _ _ _ _) (Nt ?_))))
 cases hb8 : (decide (p ≥ 0))
 · refine Fs (WC_seq ?_)
   rw [show decide (0 ≤ p) = false from hb8, cond_false] at hnext
   refine WC_region (Fa b5 0 fa151_0 (Lo b5 0 (ptr q) isAgg118 Z3 rfl (Nc q 0 (Fa q 0 fa122_1 (Lo q 5 (slV v4) isAgg120 Z4 rfl (WL_rd (rd_lenSV (k := ((lx.length : Nat) : Int)) runUnderlying120 rfl (by rw [hvx])) (Bo (Iv lx.length) (Iv 1) (Iv (((lx.length : Nat) : Int) - 1)) eqg_int (bin_sub (by omega) (by omega)) (Av (Iv (((lx.length : Nat) : Int) - 1)) (Nt (WC_block (WC.ent (Sel.ent (.succ Z4)) (WC.ex fun qk => WC.ent (ent_all [_, _] _) ?_))))))))))))
   rw [tns_star]
   refine WC.know (p := lx.length = qk.length) (fun h s => by have s := sep_drop s; obtain ⟨_, _, _, p, _⟩ := s; exact star_len p) fun hlk => WC.ent (Γ := _) (Δ := SK ((lx.drop lx.length).map (fun c => (c, ((fs.length : Nat) : Int))) ++ st) (some ⟨b, 0, none⟩, st.length, cp) :: Star TN (lx.take lx.length) (qk.take lx.length) :: Arr 118 1 (slV v4) qk.length (qk.map ptr) :: Cl q 122 [Iv kk, Tx sx, Iv nx, .slice none 0 0, Iv ax, slV v4] :: Cl b5 151 [ptr q, Iv p] :: Cl b2 26 [slV v7] :: NL FS v7 :: Cl b1 26 [.slice none 0 0] :: F) (fun h s => by rw [List.drop_length, List.take_length, hlk, List.take_length]; exact (En Z4 (En Z1 (En Z0 (En Z3 (E4 Z2 Z0 Z0 Z0))))) h s) (WC_loopF (α := Nat × SV) (fun x => x.1 ≤ lx.length) (fun x => [(2, ptr b1), (3, ptr b2), (4, slV x.2), (5, ptr b5), (6, Iv fs.length), (7, Iv (((x.1 : Nat) : Int) - 1))]) (fun x => SK ((lx.drop x.1).map (fun c => (c, ((fs.length : Nat) : Int))) ++ st) x.2 :: Star TN (lx.take x.1) (qk.take x.1) :: Arr 118 1 (slV v4) qk.length (qk.map ptr) :: Cl q 122 [Iv kk, Tx sx, Iv nx, .slice none 0 0, Iv ax, slV v4] :: Cl b5 151 [ptr q, Iv p] :: Cl b2 26 [slV v7] :: NL FS v7 :: Cl b1 26 [.slice none 0 0] :: F) (fun x => x.1) (lx.length, (some ⟨b, 0, none⟩, st.length, cp)) (Nat.le_refl _) ⟨rfl, rfl, rfl, rfl, rfl, rfl, trivial⟩ E0 ?_)
   rintro ⟨i, s2⟩ σ2 hi0
   replace hi0 : i ≤ lx.length := hi0
   show WC prog _ _ _ (upds σ2 [(2, ptr b1), (3, ptr b2), (4, slV s2), (5, ptr b5), (6, Iv fs.length), (7, Iv (((i : Nat) : Int) - 1))]) _ (SK ((lx.drop i).map (fun c => (c, ((fs.length : Nat) : Int))) ++ st) s2 :: Star TN (lx.take i) (qk.take i) :: Arr 118 1 (slV v4) qk.length (qk.map ptr) :: Cl q 122 [Iv kk, Tx sx, Iv nx, .slice none 0 0, Iv ax, slV v4] :: Cl b5 151 [ptr q, Iv p] :: Cl b2 26 [slV v7] :: NL FS v7 :: Cl b1 26 [.slice none 0 0] :: F)
   rcases i with _ | j
   · refine Sz (Mv (Iv (((0 : Nat) : Int) - 1)) (Bo (Iv (((0 : Nat) : Int) - 1)) (Iv 0) (.bool false) eqg_int (by rw [binOp_geq]; rfl) (Nt (WC_false rfl (WC_exit (At_thenX (At_loopX (At_blockX (At_blockN (At.ent (En Z0 (nd_close (sn := v7) (En Z4 (En Z4 (En Z4 D4))))) ?_))))))))))
     exact At_againF (k', _, _, _) hnext ⟨rfl, rfl, rfl, trivial⟩ E0 (Nat.lt_succ_self _)
   obtain ⟨c, hc⟩ : ∃ c, lx[j]? = some c := ⟨lx[j]'(by omega), List.getElem?_eq_getElem _⟩
   obtain ⟨qj, hqj⟩ : ∃ q, qk[j]? = some q := ⟨qk[j]'(by omega), List.getElem?_eq_getElem _⟩
   refine WC.ent (E1 Z1) (WC.ent (kid_off hc hqj) (WC.openArr Z3 (by omega) fun bk ck sk ek hk1 hk2 hk3 hk4 => ?_))
   subst ek
   refine Sz (Mv (Iv (((j + 1 : Nat) : Int) - 1)) (Bo (Iv (((j + 1 : Nat) : Int) - 1)) (Iv 0) (.bool true) eqg_int (by rw [binOp_geq]; rw [show decide (((j + 1 : Nat) : Int) - 1 ≥ 0) = true from by simp only [decide_eq_true_eq]; omega]) (Nt (WC_true rfl (WC_skip (At_then (WC_seq (WC_block (WC_region (Mv (slV s2) (Fa b5 0 fa151_0 (Lo b5 0 (ptr q) isAgg118 (.succ Z4) rfl (Nc q 0 (Fa q 0 fa122_1 (Lo q 5 (Sl bk qk.length ck) isAgg120 Z4 rfl (Mv (Iv (((j + 1 : Nat) : Int) - 1)) (WL_rd (rd_idx1 (j := j) runUnderlying120 sizeOf118 rfl rfl (by omega) (by omega)) ?_)))))))))))))))))
   refine Lo bk j (ptr qj) isAgg118 Z0 (by rw [List.getElem?_append_left (by simp; omega), List.getElem?_map, hqj]; rfl) ?_
   refine Mv (Iv fs.length) (WL_rd (rd_build (vs := [(0, ptr qj), (1, Iv fs.length)]) (v := .agg #[ptr qj, Iv fs.length]) rfl (bd151_0_1 _ _ rfl rfl )) (WL_ef (ef_buildSlice (E := 151) (vs := [(0, .agg #[ptr qj, Iv fs.length])]) (l := [ptr qj, Iv fs.length]) rfl (bs152_1 _ _ )) fun b9 => WL_ef (ef_push rfl rfl (K3 Z4 Z0 Z1) (by simp; omega)) fun v10 => Av (slV v10) (WL_nil (At_blockN (At_then (WC_region (Mv (Iv (((j + 1 : Nat) : Int) - 1)) (Bo (Iv (((j + 1 : Nat) : Int) - 1)) (Iv 1) (Iv ((((j + 1 : Nat) : Int) - 1) - 1)) eqg_int (bin_sub (by omega) (by omega)) (Av (Iv ((((j + 1 : Nat) : Int) - 1) - 1)) (WL_nil (At.ent (En Z1 (En Z0 (En Z0 (En Z0 (E4 Z0 Z0 Z0 Z0))))) (At.ent (closeArr hk1 hk2 hk3 hk4) ?_))))))))))))
   refine At_againF (j, v10) (by show j ≤ lx.length; omega) ⟨rfl, rfl, rfl, rfl, rfl, ?_, trivial⟩ (by show Ent _ (_ :: _); rw [← sk_next hc]; exact En Z1 (En Z1 (En Z0 (En Z0 (E4 Z0 Z0 Z0 Z0))))) (Nat.lt_succ_self _)
   exact congrArg (Value.int .i64) (show (((j + 1 : Nat) : Int) - 1) - 1 = ((j : Nat) : Int) - 1 by omega)
 refine WC_true rfl ?_
 have hp0 : 0 ≤ p := by simpa using hb8
 refine WC.openKid (i := p.toNat) Z1 (by omega) fun bn cn spn ss f si en h1n h2n h3n hln hf hsi hr => ?_
 subst en
 have hfk := hFk f (List.mem_of_getElem? hf)
 refine WC_draw [14, 15, 16] [Cl b2 26 [Sl bn FS.length cn], Cl b5 151 [ptr q, Iv p], Cl bn 39 ((nrows FS ss).flatten ++ spn)] mixed (Dt 0 rfl rfl (Q0 (K3 Z4 (.succ Z4) Z0)) (Rf b2 0 fa26_0 rfl) (Dt 1 rfl rfl (Q0 (K3 Z4 (.succ Z4) Z0)) (Rl b2 0 (Sl bn FS.length cn) isAgg24 rfl Z0 rfl) (Dt 2 rfl rfl (Q0 (K3 Z4 (.succ Z4) Z0)) (Rf b5 0 fa151_1 rfl) (Dt 3 rfl rfl (Q0 (K3 Z4 (.succ Z4) Z0)) (Rl b5 1 (Iv p) isAgg3 rfl Z1 rfl) (Dt 4 rfl rfl (Q0 (K3 Z4 (.succ Z4) Z0)) (Rf b2 0 fa26_0 rfl) (Dt 5 rfl rfl (Q0 (K3 Z4 (.succ Z4) Z0)) (Rl b2 0 (Sl bn FS.length cn) isAgg24 rfl Z0 rfl) (Dt 6 rfl rfl (Q0 (K3 Z4 (.succ Z4) Z0)) (Rf b5 0 fa151_1 rfl) (Dt 7 rfl rfl (Q0 (K3 Z4 (.succ Z4) Z0)) (Rl b5 1 (Iv p) isAgg3 rfl Z1 rfl) (Dt 8 rfl rfl (Q0 (K3 Z4 (.succ Z4) Z0)) (rd_idxN (j := p.toNat) (o := p.toNat * 5) runUnderlying24 sizeOf39 rfl rfl (by omega) (by omega) rfl) (Dt 9 rfl rfl (Q0 (K3 Z4 (.succ Z4) Z0)) (Rf bn (p.toNat * 5) fa39_3 rfl) (Dt 10 rfl rfl (Q0 (K3 Z4 (.succ Z4) Z0)) (Rl bn (p.toNat * 5 + 3) (slV si) isAgg37 rfl Z2 (rows_cell (nrows_row _ _) hr rfl)) (Dt 11 rfl rfl (Q0 (K3 Z4 (.succ Z4) Z0)) (Rm (Iv fs.length) rfl) (WD_ef 12 (by kernel_rfl) rfl rfl rfl (ef_buildSlice (E := 3) (vs := [(0, Iv fs.length)]) (l := [Iv fs.length]) rfl (bs37_1 _ rfl )) (fun _ _ => Q0 (K3 (.succ Z4) (.succ (.succ Z4)) Z1)) fun b11 => WD_ef 13 (by kernel_rfl) rfl rfl rfl (ef_append (e := 3) (z := Iv 0) (sz := 1) (bytes := 8) (m := f.kids.length) (m2 := 1) (c2 := 1) (o2 := 0) (news := [Iv fs.length]) underlying37 info3 rfl rfl rfl rfl (by decide) (by decide) rfl rfl Z2 Z0 rfl rfl rfl (by omega)) (fun _ _ => Q0 (K3 (.succ Z4) (.succ (.succ Z4)) Z2)) fun v12 => WD_rd 14 (by kernel_rfl) rfl rfl rfl (rd_idxN (j := p.toNat) (o := p.toNat * 5) runUnderlying24 sizeOf39 rfl rfl (by omega) (by omega) rfl) (late_vac (i := 14) (by kernel_rfl) (by decide)) (WD_rd 15 (by kernel_rfl) rfl rfl rfl (Rf bn (p.toNat * 5) fa39_3 rfl) (late_vac (i := 15) (by kernel_rfl) (by decide)) (WD_ef0 16 (by kernel_rfl) rfl rfl rfl (ef_storeAt (b := bn) (o := p.toNat * 5 + 3) (v := slV v12) sizeOf37 rfl rfl rfl Z2 (by rw [h3n]; omega)) (late_vac (i := 16) (by kernel_rfl) (by decide)) ?_)))))))))))))))
 refine WD_done (by kernel_rfl) ?_ _
 refine At_then (WC_seq (WC.ent (Sels.ent (K4 Z0 Z0 Z1 Z1)) (WC.ent (closeKid h1n h2n h3n hln hf hsi hr) ?_)))
 rw [show decide (0 ≤ p) = true from hb8, cond_true] at hnext
 refine WC_region (Fa b5 0 fa151_0 (Lo b5 0 (ptr q) isAgg118 Z4 rfl (Nc q 0 (Fa q 0 fa122_1 (Lo q 5 (slV v4) isAgg120 (.succ Z4) rfl (WL_rd (rd_lenSV (k := ((lx.length : Nat) : Int)) runUnderlying120 rfl (by rw [hvx])) (Bo (Iv lx.length) (Iv 1) (Iv (((lx.length : Nat) : Int) - 1)) eqg_int (bin_sub (by omega) (by omega)) (Av (Iv (((lx.length : Nat) : Int) - 1)) (Nt (WC_block (WC.ent (Sel.ent (.succ (.succ Z4))) (WC.ex fun qk => WC.ent (ent_all [_, _] _) ?_))))))))))))
 rw [tns_star]
 refine WC.know (p := lx.length = qk.length) (fun h s => by have s := sep_drop s; obtain ⟨_, _, _, p, _⟩ := s; exact star_len p) fun hlk => WC.ent (Γ := _) (Δ := SK ((lx.drop lx.length).map (fun c => (c, ((fs.length : Nat) : Int))) ++ st) (some ⟨b, 0, none⟩, st.length, cp) :: Star TN (lx.take lx.length) (qk.take lx.length) :: Arr 118 1 (slV v4) qk.length (qk.map ptr) :: Cl q 122 [Iv kk, Tx sx, Iv nx, .slice none 0 0, Iv ax, slV v4] :: Cl b5 151 [ptr q, Iv p] :: Cl b2 26 [Sl bn FS.length cn] :: NL (addKid FS p.toNat ((fs.length : Nat) : Int)) (some ⟨bn, 0, none⟩, FS.length, cn) :: Cl b1 26 [.slice none 0 0] :: F) (fun h s => by rw [List.drop_length, List.take_length, hlk, List.take_length]; exact (En (.succ Z4) (En Z1 (En Z0 (En Z4 (En Z3 (En Z2 (En Z0 (En Z1 D1)))))))) h s) (WC_loopF (α := Nat × SV) (fun x => x.1 ≤ lx.length) (fun x => [(2, ptr b1), (3, ptr b2), (4, slV x.2), (5, ptr b5), (6, Iv fs.length), (7, Iv (((x.1 : Nat) : Int) - 1))]) (fun x => SK ((lx.drop x.1).map (fun c => (c, ((fs.length : Nat) : Int))) ++ st) x.2 :: Star TN (lx.take x.1) (qk.take x.1) :: Arr 118 1 (slV v4) qk.length (qk.map ptr) :: Cl q 122 [Iv kk, Tx sx, Iv nx, .slice none 0 0, Iv ax, slV v4] :: Cl b5 151 [ptr q, Iv p] :: Cl b2 26 [Sl bn FS.length cn] :: NL (addKid FS p.toNat ((fs.length : Nat) : Int)) (some ⟨bn, 0, none⟩, FS.length, cn) :: Cl b1 26 [.slice none 0 0] :: F) (fun x => x.1) (lx.length, (some ⟨b, 0, none⟩, st.length, cp)) (Nat.le_refl _) ⟨rfl, rfl, rfl, rfl, rfl, rfl, trivial⟩ E0 ?_)
 rintro ⟨i, s2⟩ σ2 hi0
 replace hi0 : i ≤ lx.length := hi0
 show WC prog _ _ _ (upds σ2 [(2, ptr b1), (3, ptr b2), (4, slV s2), (5, ptr b5), (6, Iv fs.length), (7, Iv (((i : Nat) : Int) - 1))]) _ (SK ((lx.drop i).map (fun c => (c, ((fs.length : Nat) : Int))) ++ st) s2 :: Star TN (lx.take i) (qk.take i) :: Arr 118 1 (slV v4) qk.length (qk.map ptr) :: Cl q 122 [Iv kk, Tx sx, Iv nx, .slice none 0 0, Iv ax, slV v4] :: Cl b5 151 [ptr q, Iv p] :: Cl b2 26 [Sl bn FS.length cn] :: NL (addKid FS p.toNat ((fs.length : Nat) : Int)) (some ⟨bn, 0, none⟩, FS.length, cn) :: Cl b1 26 [.slice none 0 0] :: F)
 rcases i with _ | j
 · refine Sz (Mv (Iv (((0 : Nat) : Int) - 1)) (Bo (Iv (((0 : Nat) : Int) - 1)) (Iv 0) (.bool false) eqg_int (by rw [binOp_geq]; rfl) (Nt (WC_false rfl (WC_exit (At_thenX (At_loopX (At_blockX (At_blockN (At.ent (En Z0 (nd_close (sn := (some ⟨bn, 0, none⟩, FS.length, cn)) (En Z4 (En Z4 (En Z4 D4))))) ?_))))))))))
   exact At_againF (k', _, _, _) hnext ⟨rfl, rfl, rfl, trivial⟩ E0 (Nat.lt_succ_self _)
 obtain ⟨c, hc⟩ : ∃ c, lx[j]? = some c := ⟨lx[j]'(by omega), List.getElem?_eq_getElem _⟩
 obtain ⟨qj, hqj⟩ : ∃ q, qk[j]? = some q := ⟨qk[j]'(by omega), List.getElem?_eq_getElem _⟩
 refine WC.ent (E1 Z1) (WC.ent (kid_off hc hqj) (WC.openArr Z3 (by omega) fun bk ck sk ek hk1 hk2 hk3 hk4 => ?_))
 subst ek
 refine Sz (Mv (Iv (((j + 1 : Nat) : Int) - 1)) (Bo (Iv (((j + 1 : Nat) : Int) - 1)) (Iv 0) (.bool true) eqg_int (by rw [binOp_geq]; rw [show decide (((j + 1 : Nat) : Int) - 1 ≥ 0) = true from by simp only [decide_eq_true_eq]; omega]) (Nt (WC_true rfl (WC_skip (At_then (WC_seq (WC_block (WC_region (Mv (slV s2) (Fa b5 0 fa151_0 (Lo b5 0 (ptr q) isAgg118 (.succ Z4) rfl (Nc q 0 (Fa q 0 fa122_1 (Lo q 5 (Sl bk qk.length ck) isAgg120 Z4 rfl (Mv (Iv (((j + 1 : Nat) : Int) - 1)) (WL_rd (rd_idx1 (j := j) runUnderlying120 sizeOf118 rfl rfl (by omega) (by omega)) ?_)))))))))))))))))
 refine Lo bk j (ptr qj) isAgg118 Z0 (by rw [List.getElem?_append_left (by simp; omega), List.getElem?_map, hqj]; rfl) ?_
 refine Mv (Iv fs.length) (WL_rd (rd_build (vs := [(0, ptr qj), (1, Iv fs.length)]) (v := .agg #[ptr qj, Iv fs.length]) rfl (bd151_0_1 _ _ rfl rfl )) (WL_ef (ef_buildSlice (E := 151) (vs := [(0, .agg #[ptr qj, Iv fs.length])]) (l := [ptr qj, Iv fs.length]) rfl (bs152_1 _ _ )) fun b13 => WL_ef (ef_push rfl rfl (K3 Z4 Z0 Z1) (by simp; omega)) fun v14 => Av (slV v14) (WL_nil (At_blockN (At_then (WC_region (Mv (Iv (((j + 1 : Nat) : Int) - 1)) (Bo (Iv (((j + 1 : Nat) : Int) - 1)) (Iv 1) (Iv ((((j + 1 : Nat) : Int) - 1) - 1)) eqg_int (bin_sub (by omega) (by omega)) (Av (Iv ((((j + 1 : Nat) : Int) - 1) - 1)) (WL_nil (At.ent (En Z1 (En Z0 (En Z0 (En Z0 (E4 Z0 Z0 Z0 Z0))))) (At.ent (closeArr hk1 hk2 hk3 hk4) ?_))))))))))))
 refine At_againF (j, v14) (by show j ≤ lx.length; omega) ⟨rfl, rfl, rfl, rfl, rfl, ?_, trivial⟩ (by show Ent _ (_ :: _); rw [← sk_next hc]; exact En Z1 (En Z1 (En Z0 (En Z0 (E4 Z0 Z0 Z0 Z0))))) (Nat.lt_succ_self _)
 exact congrArg (Value.int .i64) (show (((j + 1 : Nat) : Int) - 1) - 1 = ((j : Nat) : Int) - 1 by omega)
end
end Go.Proofs

namespace Go.Proofs
open Go.Px Tryz
attribute [local semireducible] WL WC At WD
theorem WL_laid {n : Nat} {Q : Post} {ρ : Env} {ds : List Deferred} {Γ F : List HP} {ops : Array Oper} {rest : List Oper} {xs : List Operand} {ats : Array TypeId} {t : Tmp} {ty : TypeId} {pos : String} {af : Array Edge} {t0 : PT} {q0 : Nat} (hsz : t0.size ≤ 1099511627776) (hx : xs.map (evE n ρ) = [ptr q0]) (hs : Sel Γ (TN t0 q0) F)
 (hok : ∀ sn, WL prog n ops rest Q (upd ρ t (.agg [slV sn].toArray)) ds (NL (layK t0.size [(t0, -1)] []) sn :: F)) :
 WL prog n ops (⟨some t, .call ⟨.value (.func 90), xs.toArray, ats⟩, ty, pos, af, none⟩ :: rest) Q ρ ds Γ :=
 WL_call call90 (args_map hx) (fun w s => c_laid hsz F w (s.mono hs.ent)) (fun v' w h => by obtain ⟨sn, h, s⟩ := h; cases h; exact hok sn w s) (fun c w h => by obtain ⟨b, h, _⟩ := h; cases h) (fun w h => by obtain ⟨b, h, _⟩ := h; cases h)
end Go.Proofs

namespace Go.Proofs
open Go.Px Tryz
section
variable {pb tb cap K : Nat} {L : List Tk} {g : NT → M PT}
theorem c_rrec0 (b1 b2 b3 : Nat) (s : SV) (i : Int) (x : Bool) : ∀ F w, Sat (Cl b1 26 [slV s] :: Cl b2 3 [Iv i] :: Cl b3 4 [.bool x] :: F) w → CallsD prog 83 [ptr b1, ptr b2, ptr b3].toArray .returning w (fun e u' w' => u' = .returning ∧ e = .returned (.tuple #[]) ∧ Sat (Cl b1 26 [slV s] :: Cl b2 3 [Iv i] :: Cl b3 4 [.bool x] :: F) w') := by
 intro F
 refine callsD_recover (fn := f83) (v := .nilIface) (u' := .returning) (R := fun e w' => e = .returned (.tuple #[]) ∧ Sat (Cl b1 26 [slV s] :: Cl b2 3 [Iv i] :: Cl b3 4 [.bool x] :: F) w') func83 rfl rfl (fun c₀ cs h => .inr ⟨recoverD_returning h, rfl, rfl⟩) (WC_block (Sr (WL_rd (rd_eqNN runUnderlying20 rfl) (Nt (Tr (Av .nilIface (WL_nil (At_blockN ?_))))))))
 exact At_end0 results83 (fun w q => ⟨rfl, q.mono (E3 Z0 Z0 Z0)⟩)
theorem c_rrec1 (b1 b2 b3 : Nat) (s : SV) (i : Int) (x : Bool) (a : Int) : ∀ F w, Sat (Cl b1 26 [slV s] :: Cl b2 3 [Iv i] :: Cl b3 4 [.bool x] :: F) w → CallsD prog 83 [ptr b1, ptr b2, ptr b3].toArray (.panicking [refused a]) w (fun e u' w' => u' = .panicking [{ refused a with recovered := true }] ∧ e = .returned (.tuple #[]) ∧ Sat (Cl b1 26 [.slice none 0 0] :: Cl b2 3 [Iv a] :: Cl b3 4 [.bool false] :: F) w') := by
 intro F
 refine callsD_recover (fn := f83) (v := .iface 117 (.agg #[Iv a])) (u' := .panicking [{ refused a with recovered := true }]) (R := fun e w' => e = .returned (.tuple #[]) ∧ Sat (Cl b1 26 [.slice none 0 0] :: Cl b2 3 [Iv a] :: Cl b3 4 [.bool false] :: F) w') func83 rfl rfl (fun c₀ cs h => .inl (recoverD_panicking h)) (WC_block (Sr (WL_rd (rd_eqIN runUnderlying20 rfl) (Nt (WC_false rfl (Sr (WL_rd (rd_typeAssert runUnderlying117 (fun _ h => by cases h) rfl) (Xt (.bool true) (Xt (.agg #[Iv a]) (Nt (Ts (WL_ef (ef_alloc (l := [Iv 0]) zeroValue117 rfl) fun b21 => Sa b21 0 [Iv a] sizeOf117 Z0 (.put .done) (Nt (WC_draw [4, 5] [Cl b21 117 [Iv a]] mixed (Dt 0 rfl rfl (Q0 (K1 Z0)) (rd_build (vs := []) (v := .agg #[.slice none 0 0]) rfl (bd26_z )) (Dt 1 rfl rfl (Q0 (K1 Z0)) (Rf b21 0 fa117_0 rfl) (Dt 2 rfl rfl (Q0 (K1 Z0)) (Rl b21 0 (Iv a) isAgg3 rfl Z0 rfl) (WD_ef0 3 (by kernel_rfl) rfl rfl rfl (ef_store (b := b1) (o := 0) (v := .agg #[.slice none 0 0]) (vs := [.slice none 0 0]) sizeOf26 rfl rfl rfl rfl rfl Z1 (.put .done)) (fun _ => Q0 (K1 Z1)) (WD_ef0 4 (by kernel_rfl) rfl rfl rfl (ef_store (b := b2) (o := 0) (v := Iv a) (vs := [Iv a]) sizeOf3 rfl rfl rfl rfl rfl Z2 (.put .done)) (late_vac (i := 4) (by kernel_rfl) (by decide)) (WD_ef0 5 (by kernel_rfl) rfl rfl rfl (ef_store (b := b3) (o := 0) (v := .bool false) (vs := [.bool false]) sizeOf4 rfl rfl rfl rfl rfl Z3 (.put .done)) (late_vac (i := 5) (by kernel_rfl) (by decide)) ?_))))))))))))))))))))
 refine WD_done (by kernel_rfl) ?_ _
 refine At_blockN ?_
 exact At_end0 results83 (fun w q => ⟨rfl, q.mono (En Z2 (En Z1 (En Z0 D1)))⟩)
theorem run_cells3 {fn : Func} {b1 b2 b3 : Nat} {s : SV} {i : Int} {x : Bool} {F : List HP} (hres : fn.results = #[.cell 4 26, .cell 5 3, .cell 6 4]) {tmps : Array Value} (h4 : tmps.getD 4 undef = ptr b1) (h5 : tmps.getD 5 undef = ptr b2) (h6 : tmps.getD 6 undef = ptr b3) {w : World}
 (q : Sat (Cl b1 26 [slV s] :: Cl b2 3 [Iv i] :: Cl b3 4 [.bool x] :: F) w) : (results fn tmps).run prog w = .ok (.tuple #[.agg #[slV s], Iv i, .bool x]) w := by
 have r1 := run_cell (P := prog) (w := w) (tmps := tmps) (a := 4) isAgg26 sizeOf26 h4 (Sat.blk q) rfl
 have r2 := run_cell1 (P := prog) (w := w) (tmps := tmps) (a := 5) isAgg3 h5 (Sat.blk (Sat.mono q (E1 Z1)))
 have r3 := run_cell1 (P := prog) (w := w) (tmps := tmps) (a := 6) isAgg4 h6 (Sat.blk (Sat.mono q (E1 Z2)))
 rw [h4] at r1; rw [h5] at r2; rw [h6] at r3
 rw [Array.getD_eq_getD_getElem?] at h4 h5 h6
 simp [asAddr] at r1 r2 r3
 simp only [results, hres]
 simp [h4, h5, h6, asAddr, r1, r2, r3]
def RunR (tb : Nat) (L : List Tk) (r : Except Int (PT × List Tk)) (F : List HP) (e : Ending) (w : World) : Prop := match r with
 | .ok (x, _) => ∃ sn, e = .returned (.tuple #[.agg #[slV sn], Iv 0, .bool true]) ∧ Sat (NL (layK x.size [(x, -1)] []) sn :: TB tb L :: F) w
 | .error a => e = .returned (.tuple #[.agg #[.slice none 0 0], Iv a, .bool false]) ∧ Sat (TB tb L :: F) w
def dRun (b1 b2 b3 : Nat) : List Deferred := [⟨.fn (.func 83) [ptr b1, ptr b2, ptr b3].toArray, #[]⟩]
theorem run_leaves0 {b1 b2 b3 : Nat} {s : SV} {i : Int} {x : Bool} {F : List HP} {tmps : Array Value} (h4 : tmps.getD 4 undef = ptr b1) (h5 : tmps.getD 5 undef = ptr b2) (h6 : tmps.getD 6 undef = ptr b3) {R : Ending → World → Prop} {w : World}
 (q : Sat (Cl b1 26 [slV s] :: Cl b2 3 [Iv i] :: Cl b3 4 [.bool x] :: F) w) (hR : ∀ w, Sat (Cl b1 26 [slV s] :: Cl b2 3 [Iv i] :: Cl b3 4 [.bool x] :: F) w → R (.returned (.tuple #[.agg #[slV s], Iv i, .bool x])) w) :
 Leaves prog f53 tmps R (dRun b1 b2 b3) .returning w := by
 refine leaves_cons (by simp) (f := 83) (args := [ptr b1, ptr b2, ptr b3].toArray) (by simp [invoke, call83]) ((c_rrec0 b1 b2 b3 s i x F w q).mono fun e u' w' h => ?_)
 obtain ⟨rfl, rfl, hs⟩ := h
 exact ⟨_, run_cells3 results53 h4 h5 h6 hs, hR w' hs⟩
theorem run_leaves1 {b1 b2 b3 : Nat} {s : SV} {i a : Int} {x : Bool} {F : List HP} {tmps : Array Value} (h4 : tmps.getD 4 undef = ptr b1) (h5 : tmps.getD 5 undef = ptr b2) (h6 : tmps.getD 6 undef = ptr b3) {R : Ending → World → Prop} {w : World}
 (q : Sat (Cl b1 26 [slV s] :: Cl b2 3 [Iv i] :: Cl b3 4 [.bool x] :: F) w) (hR : ∀ w, Sat (Cl b1 26 [.slice none 0 0] :: Cl b2 3 [Iv a] :: Cl b3 4 [.bool false] :: F) w → R (.returned (.tuple #[.agg #[.slice none 0 0], Iv a, .bool false])) w) :
 Leaves prog f53 tmps R (dRun b1 b2 b3) (.panicking [refused a]) w := by
 refine leaves_cons (by simp) (f := 83) (args := [ptr b1, ptr b2, ptr b3].toArray) (by simp [invoke, call83]) ((c_rrec1 b1 b2 b3 s i x a F w q).mono fun e u' w' h => ?_)
 obtain ⟨rfl, rfl, hs⟩ := h
 exact ⟨_, run_cells3 (s := (none, 0, 0)) results53 h4 h5 h6 hs, hR w' hs⟩
theorem run_pan {pb tb cap b1 b2 b3 : Nat} {L : List Tk} {r : Except Int (PT × List Tk)} {F : List HP} {ρ : Env} (h4 : evE f53.ntmps ρ (.tmp 4) = ptr b1) (h5 : evE f53.ntmps ρ (.tmp 5) = ptr b2) (h6 : evE f53.ntmps ρ (.tmp 6) = ptr b3) :
 Pan (bodyQD prog f53 (RunR tb L r F)) ρ (dRun b1 b2 b3) (RM pb tb L cap r resN (Cl b1 26 [.slice none 0 0] :: Cl b2 3 [Iv 0] :: Cl b3 4 [.bool false] :: F)) := fun c w h tmps hk => by
 obtain ⟨a, rfl, rfl, s⟩ := h
 refine run_leaves1 (s := (none, 0, 0)) (i := 0) (x := false) (F := TB tb L :: F) ((hk 4 (by decide)).trans h4) ((hk 5 (by decide)).trans h5) ((hk 6 (by decide)).trans h6) (s.mono (E3 Z1 Z1 Z1)) fun w q => ⟨rfl, q.mono D3⟩
theorem pok_start {L : List Tk} (h : LOK L) : POK L 0 ⟨0, [], 0, 0⟩ false L := by
 obtain ⟨h1, h2, t, h3, h4⟩ := h
 cases L with
 | nil => cases h3
 | cons u l => exact ⟨⟨h1, h2, t, h3, h4⟩, by simp, ⟨u, rfl, rfl⟩, fun h => by cases h⟩
theorem c_run0 (hK : K ≤ 274877906944) (hg : CG g) (hL : LOK L) {r : Except Int (PT × List Tk)} (H : runM K g 0 L = some r) (hsz : ∀ x ts, r = .ok (x, ts) → x.size ≤ 1099511627776) : ∀ F w, Sat (TB tb L :: F) w → Calls prog 53 [Sl tb L.length cap, Iv 0].toArray w (RunR tb L r F) := by
 intro F
 replace H := bpureH H
 unfold runM at H
 simp only [show ((0 : Nat) == 0) = true from rfl, show ((1 : Nat) == 0) = false from rfl, show ((1 : Nat) == 1) = true from rfl, show ((2 : Nat) == 0) = false from rfl, show ((2 : Nat) == 1) = false from rfl, cond_true, cond_false] at H
 try simp only [nr] at H
 refine calls_of_WCD (fn := f53) func53 rfl rfl (Sr (WL_ef (ef_alloc (l := [.slice none 0 0]) zeroValue26 rfl) fun b1 => WL_ef (ef_alloc (l := [Iv 0]) zeroValue3 rfl) fun b2 => WL_ef (ef_alloc (l := [.bool false]) zeroValue4 rfl) fun b3 => Ny (Mv (Sl tb L.length cap) (WL_rd (rd_build (vs := [(0, Sl tb L.length cap)]) (v := .agg #[Sl tb L.length cap, Iv 0, Iv 0, Tx [], Iv 0, Iv 0, .bool false]) rfl (bd115_0 _ rfl )) (WL_ef (ef_box (v := .agg #[Sl tb L.length cap, Iv 0, Iv 0, Tx [], Iv 0, Iv 0, .bool false]) (l := [Sl tb L.length cap, Iv 0, Iv 0, Tx [], Iv 0, Iv 0, .bool false]) rfl rfl) fun pb => Av (ptr pb) (Nt (WC_seq (WC.ent (Sels.ent (K1 Z0)) (WC.ent (closePO (i := 0) (l := ⟨0, [], 0, 0⟩) (s := false) (pok_start hL)) (WC_region (WL_rd (rd_makeFunc (us := []) (vs := [ptr b1, ptr b2, ptr b3]) rfl rfl) (WL_defer (f := 83) (fs := [].toArray) (cs := [ptr b1, ptr b2, ptr b3].toArray) (args := #[]) rfl (by simp) (Ny (Av (.pointer none) (Nz (Mv (Iv 0) (Nt (WC_block (Sr (Bo (Iv 0) (Iv 0) (.bool true) eqg_int (by rw [binOp_eql]; rfl) (Av (.bool true) (Nt (Ts (WL_made (k := 3) (s := []) (nu := 0) (a := 0) rfl rfl (ent_kd0) fun q1 => Av (ptr q1) (Nt (WC_block (WC_loopM (G := Nat × List PT) (fun x => x.2.length + 2 * x.1 ≤ 2 * K + 2) (fun x => progM g x.1 x.2) (fun x => [(4, ptr b1), (5, ptr b2), (6, ptr b3), (7, ptr pb), (8, ptr q1), (13, Iv 0)]) (fun x ts => TN (PT.node 3 [] 0 0 x.2) q1 :: PO pb tb L cap ts :: Cl b3 4 [.bool false] :: Cl b2 3 [Iv 0] :: Cl b1 26 [.slice none 0 0] :: TB tb L :: F) (fun x => x.1) (K, []) H (show [].length + 2 * K ≤ 2 * K + 2 by (try simp) <;> omega) ⟨rfl, rfl, rfl, rfl, rfl, rfl, trivial⟩ (En Z0 (En Z0 (E4 Z0 Z0 Z0 Z0))) ?_)))))))))))))))))))))))))))
 rintro ⟨k, acc2⟩ ts3 σ hpre H
 replace hpre : acc2.length + 2 * k ≤ 2 * K + 2 := hpre
 change (progM g k acc2 >>= _) _ = _ at H
 rcases k with _ | k
 · exact oofK H
 rw [progM] at H
 try simp only [nr] at H
 show WC prog _ _ _ (upds σ [(4, ptr b1), (5, ptr b2), (6, ptr b3), (7, ptr pb), (8, ptr q1), (13, Iv 0)]) _ (TN (PT.node 3 [] 0 0 acc2) q1 :: PO pb tb L cap ts3 :: Cl b3 4 [.bool false] :: Cl b2 3 [Iv 0] :: Cl b1 26 [.slice none 0 0] :: TB tb L :: F)
 refine Sz (Mv (ptr pb) (WL_callV' call85 rfl (c_now) H (K2 Z1 Z4) (fun c w h => run_pan rfl rfl rfl c w h) rfl (.tail (En Z3 (En Z2 (En Z1 D1)))) fun t4 ts5 H => WL_rd (rd_field (u := .agg #[Iv t4.kind, Tx t4.text, Iv t4.pos, Iv t4.en]) (v := Iv t4.kind) rfl (fv47_0 _ _ _ _ )) (Bo (Iv t4.kind) (Iv 10) (.bool (t4.kind != 10)) eqg_int (binOp_neq _ _ _ _) (Nt ?_))))
 cases hb7 : (t4.kind != 10)
 · try simp only [nr, hb7] at H
   refine WC_false rfl (WC_exit (At_thenX (At_loopX (At_blockX (At_blockN (At_then (Sz (Mv (ptr pb) (WL_callV' call85 rfl (c_now) H (K2 Z0 Z0) (fun c w h => run_pan rfl rfl rfl c w h) rfl (.tail (En Z3 (En Z2 (En Z1 D1)))) fun t8 ts9 H => WL_rd (rd_field (u := .agg #[Iv t8.kind, Tx t8.text, Iv t8.pos, Iv t8.en]) (v := Iv t8.kind) rfl (fv47_0 _ _ _ _ )) (Bo (Iv t8.kind) (Iv 10) (.bool (t8.kind != 10)) eqg_int (binOp_neq _ _ _ _) (Nt ?_)))))))))))
   cases hb11 : (t8.kind != 10)
   · try simp only [nr, hb11] at H
     refine Fx (Mv (ptr q1) ?_)
     try simp only [nr] at H
     obtain rfl := M.of_pure H
     refine WL_laid (hsz _ _ rfl) rfl Z2 fun sn => Sa b1 0 [slV sn] sizeOf26 (.succ Z4) (.put .done) (S1 b2 0 (Iv 0) sizeOf3 (.succ Z4) (.put .done) (S1 b3 0 (.bool true) sizeOf4 (.succ Z4) (.put .done) (Nr ?_)))
     exact At_retD fun w q => run_leaves0 (s := sn) (i := 0) (x := true) (by rw [actOf_getD]; rfl) (by rw [actOf_getD]; rfl) (by rw [actOf_getD]; rfl) (q.mono (En Z2 (En Z1 (En Z0 (En Z0 (En Z1 D1)))))) fun w q => ⟨sn, rfl, q.mono D3⟩
   try simp only [nr, hb11] at H
   refine Tr (Mv (ptr pb) ?_)
   exact WL_fail call89 rfl c_fail H (K2 Z0 Z0) (fun c w h => run_pan rfl rfl rfl c w h) rfl (.tail (En Z3 (En Z2 (En Z1 D1))))
 try simp only [nr, hb7] at H
 refine WC_true rfl (WC_skip (At_then (WC_block (WC.openN Z2 fun v12 => WC_draw [9, 10, 11] [Cl q1 122 [Iv 3, Tx [], Iv 0, .slice none 0 0, Iv 0, slV v12]] mixed (Dt 0 rfl rfl (Q0 (K1 Z0)) (Rm (ptr q1) rfl) (Dt 1 rfl rfl (Q0 (K1 Z0)) (Rm (ptr q1) rfl) (Dt 2 rfl rfl (Q0 (K1 Z0)) (Rn q1 0 rfl) (Dt 3 rfl rfl (Q0 (K1 Z0)) (Rf q1 0 fa122_1 rfl) (Dt 4 rfl rfl (Q0 (K1 Z0)) (Rl q1 5 (slV v12) isAgg120 rfl Z0 rfl) (Dt 5 rfl rfl (Q0 (K1 Z0)) (Rm (ptr pb) rfl) (WD_callN 6 (by kernel_rfl) rfl rfl rfl (run_call call86 (args_map rfl)) (hg (.statement) _ _ _ _) H (K2 Z2 Z2) (fun c w h => run_pan rfl rfl rfl c w h) rfl (.tail (En Z4 (En Z3 (En Z2 D2)))) (Q0 (K1 Z0)) fun x13 ts14 q15 H => WD_ef 7 (by kernel_rfl) rfl rfl rfl (ef_buildSlice (E := 118) (vs := [(0, ptr q15)]) (l := [ptr q15]) rfl (bs120_1 _ rfl )) (fun _ _ => Q0 (K1 Z4)) fun b16 => WD_ef 8 (by kernel_rfl) rfl rfl rfl (ef_appendKid rfl rfl (K3 (.succ Z4) Z0 Z0) (by (try simp) <;> omega)) (fun _ _ => Q0 (K1 Z3)) fun v17 => WD_rd 9 (by kernel_rfl) rfl rfl rfl (Rn q1 0 rfl) (late_vac (i := 9) (by kernel_rfl) (by decide)) (WD_rd 10 (by kernel_rfl) rfl rfl rfl (Rf q1 0 fa122_1 rfl) (late_vac (i := 10) (by kernel_rfl) (by decide)) (WD_ef0 11 (by kernel_rfl) rfl rfl rfl (ef_store (b := q1) (o := 5) (v := slV v17) (vs := [slV v17]) sizeOf120 rfl rfl rfl rfl rfl Z3 (.skip (.skip (.skip (.skip (.skip (.put .done))))))) (late_vac (i := 11) (by kernel_rfl) (by decide)) ?_)))))))))))))
 refine WD_done (by kernel_rfl) ?_ _
 refine At_blockN (At.ent (closeN (K2 Z0 Z0)) ?_)
 exact At_againM (k, (acc2 ++ [x13])) _ H (show (acc2 ++ [x13]).length + 2 * k ≤ 2 * K + 2 by (try simp) <;> omega) ⟨rfl, rfl, rfl, rfl, rfl, rfl, trivial⟩ (En Z0 (En Z0 (E4 Z1 Z1 Z1 Z0))) (Nat.lt_succ_self _)
theorem c_run1 (hK : K ≤ 274877906944) (hg : CG g) (hL : LOK L) {r : Except Int (PT × List Tk)} (H : runM K g 1 L = some r) (hsz : ∀ x ts, r = .ok (x, ts) → x.size ≤ 1099511627776) : ∀ F w, Sat (TB tb L :: F) w → Calls prog 53 [Sl tb L.length cap, Iv 1].toArray w (RunR tb L r F) := by
 intro F
 replace H := bpureH H
 unfold runM at H
 simp only [show ((0 : Nat) == 0) = true from rfl, show ((1 : Nat) == 0) = false from rfl, show ((1 : Nat) == 1) = true from rfl, show ((2 : Nat) == 0) = false from rfl, show ((2 : Nat) == 1) = false from rfl, cond_true, cond_false] at H
 try simp only [nr] at H
 refine calls_of_WCD (fn := f53) func53 rfl rfl (Sr (WL_ef (ef_alloc (l := [.slice none 0 0]) zeroValue26 rfl) fun b1 => WL_ef (ef_alloc (l := [Iv 0]) zeroValue3 rfl) fun b2 => WL_ef (ef_alloc (l := [.bool false]) zeroValue4 rfl) fun b3 => Ny (Mv (Sl tb L.length cap) (WL_rd (rd_build (vs := [(0, Sl tb L.length cap)]) (v := .agg #[Sl tb L.length cap, Iv 0, Iv 0, Tx [], Iv 0, Iv 0, .bool false]) rfl (bd115_0 _ rfl )) (WL_ef (ef_box (v := .agg #[Sl tb L.length cap, Iv 0, Iv 0, Tx [], Iv 0, Iv 0, .bool false]) (l := [Sl tb L.length cap, Iv 0, Iv 0, Tx [], Iv 0, Iv 0, .bool false]) rfl rfl) fun pb => Av (ptr pb) (Nt (WC_seq (WC.ent (Sels.ent (K1 Z0)) (WC.ent (closePO (i := 0) (l := ⟨0, [], 0, 0⟩) (s := false) (pok_start hL)) (WC_region (WL_rd (rd_makeFunc (us := []) (vs := [ptr b1, ptr b2, ptr b3]) rfl rfl) (WL_defer (f := 83) (fs := [].toArray) (cs := [ptr b1, ptr b2, ptr b3].toArray) (args := #[]) rfl (by simp) (Ny (Av (.pointer none) (Nz (Mv (Iv 1) (Nt (WC_block (Sr (Bo (Iv 1) (Iv 0) (.bool false) eqg_int (by rw [binOp_eql]; rfl) (Av (.bool false) (Nt (WC_false rfl (Sr (Bo (Iv 1) (Iv 1) (.bool true) eqg_int (by rw [binOp_eql]; rfl) (Av (.bool true) (Nt (Tr (Mv (ptr pb) (WL_callN call87 rfl (hg (.expr) _ _ _ _) H (K2 Z0 Z3) (fun c w h => run_pan rfl rfl rfl c w h) rfl (.tail (E3 Z2 Z1 Z0)) fun x1 ts2 q3 H => Av (ptr q3) (WL_nil (At_blockN (At_then (Sz ?_))))))))))))))))))))))))))))))))))
 refine Mv (ptr pb) (WL_callV' call85 rfl (c_now) H (K2 Z1 Z1) (fun c w h => run_pan rfl rfl rfl c w h) rfl (.tail (En Z3 (En Z2 (En Z1 D1)))) fun t4 ts5 H => WL_rd (rd_field (u := .agg #[Iv t4.kind, Tx t4.text, Iv t4.pos, Iv t4.en]) (v := Iv t4.kind) rfl (fv47_0 _ _ _ _ )) (Bo (Iv t4.kind) (Iv 10) (.bool (t4.kind != 10)) eqg_int (binOp_neq _ _ _ _) (Nt ?_)))
 cases hb7 : (t4.kind != 10)
 · try simp only [nr, hb7] at H
   refine Fx (Mv (ptr q3) ?_)
   try simp only [nr] at H
   obtain rfl := M.of_pure H
   refine WL_laid (hsz _ _ rfl) rfl Z2 fun sn => Sa b1 0 [slV sn] sizeOf26 (.succ Z4) (.put .done) (S1 b2 0 (Iv 0) sizeOf3 (.succ Z4) (.put .done) (S1 b3 0 (.bool true) sizeOf4 (.succ Z4) (.put .done) (Nr ?_)))
   exact At_retD fun w q => run_leaves0 (s := sn) (i := 0) (x := true) (by rw [actOf_getD]; rfl) (by rw [actOf_getD]; rfl) (by rw [actOf_getD]; rfl) (q.mono (En Z2 (En Z1 (En Z0 (En Z0 (En Z1 D1)))))) fun w q => ⟨sn, rfl, q.mono D3⟩
 try simp only [nr, hb7] at H
 refine Tr (Mv (ptr pb) ?_)
 exact WL_fail call89 rfl c_fail H (K2 Z0 Z0) (fun c w h => run_pan rfl rfl rfl c w h) rfl (.tail (En Z3 (En Z2 (En Z1 D1))))
theorem c_run2 (hK : K ≤ 274877906944) (hg : CG g) (hL : LOK L) {r : Except Int (PT × List Tk)} (H : runM K g 2 L = some r) (hsz : ∀ x ts, r = .ok (x, ts) → x.size ≤ 1099511627776) : ∀ F w, Sat (TB tb L :: F) w → Calls prog 53 [Sl tb L.length cap, Iv 2].toArray w (RunR tb L r F) := by
 intro F
 replace H := bpureH H
 unfold runM at H
 simp only [show ((0 : Nat) == 0) = true from rfl, show ((1 : Nat) == 0) = false from rfl, show ((1 : Nat) == 1) = true from rfl, show ((2 : Nat) == 0) = false from rfl, show ((2 : Nat) == 1) = false from rfl, cond_true, cond_false] at H
 try simp only [nr] at H
 refine calls_of_WCD (fn := f53) func53 rfl rfl (Sr (WL_ef (ef_alloc (l := [.slice none 0 0]) zeroValue26 rfl) fun b1 => WL_ef (ef_alloc (l := [Iv 0]) zeroValue3 rfl) fun b2 => WL_ef (ef_alloc (l := [.bool false]) zeroValue4 rfl) fun b3 => Ny (Mv (Sl tb L.length cap) (WL_rd (rd_build (vs := [(0, Sl tb L.length cap)]) (v := .agg #[Sl tb L.length cap, Iv 0, Iv 0, Tx [], Iv 0, Iv 0, .bool false]) rfl (bd115_0 _ rfl )) (WL_ef (ef_box (v := .agg #[Sl tb L.length cap, Iv 0, Iv 0, Tx [], Iv 0, Iv 0, .bool false]) (l := [Sl tb L.length cap, Iv 0, Iv 0, Tx [], Iv 0, Iv 0, .bool false]) rfl rfl) fun pb => Av (ptr pb) (Nt (WC_seq (WC.ent (Sels.ent (K1 Z0)) (WC.ent (closePO (i := 0) (l := ⟨0, [], 0, 0⟩) (s := false) (pok_start hL)) (WC_region (WL_rd (rd_makeFunc (us := []) (vs := [ptr b1, ptr b2, ptr b3]) rfl rfl) (WL_defer (f := 83) (fs := [].toArray) (cs := [ptr b1, ptr b2, ptr b3].toArray) (args := #[]) rfl (by simp) (Ny (Av (.pointer none) (Nz (Mv (Iv 2) (Nt (WC_block (Sr (Bo (Iv 2) (Iv 0) (.bool false) eqg_int (by rw [binOp_eql]; rfl) (Av (.bool false) (Nt (WC_false rfl (Sr (Bo (Iv 2) (Iv 1) (.bool false) eqg_int (by rw [binOp_eql]; rfl) (Av (.bool false) (Nt (WC_false rfl (Sr (Bo (Iv 2) (Iv 2) (.bool true) eqg_int (by rw [binOp_eql]; rfl) (Av (.bool true) (Nt (Tr (Mv (ptr pb) (WL_callN call88 rfl (hg (.typed) _ _ _ _) H (K2 Z0 Z3) (fun c w h => run_pan rfl rfl rfl c w h) rfl (.tail (E3 Z2 Z1 Z0)) ?_)))))))))))))))))))))))))))))))))))
 intro x1 ts2 q3 H
 refine Av (ptr q3) (WL_nil (At_blockN (At_then (Sz (Mv (ptr pb) (WL_callV' call85 rfl (c_now) H (K2 Z1 Z1) (fun c w h => run_pan rfl rfl rfl c w h) rfl (.tail (En Z3 (En Z2 (En Z1 D1)))) fun t4 ts5 H => WL_rd (rd_field (u := .agg #[Iv t4.kind, Tx t4.text, Iv t4.pos, Iv t4.en]) (v := Iv t4.kind) rfl (fv47_0 _ _ _ _ )) (Bo (Iv t4.kind) (Iv 10) (.bool (t4.kind != 10)) eqg_int (binOp_neq _ _ _ _) (Nt ?_))))))))
 cases hb7 : (t4.kind != 10)
 · try simp only [nr, hb7] at H
   refine Fx (Mv (ptr q3) ?_)
   try simp only [nr] at H
   obtain rfl := M.of_pure H
   refine WL_laid (hsz _ _ rfl) rfl Z2 fun sn => Sa b1 0 [slV sn] sizeOf26 (.succ Z4) (.put .done) (S1 b2 0 (Iv 0) sizeOf3 (.succ Z4) (.put .done) (S1 b3 0 (.bool true) sizeOf4 (.succ Z4) (.put .done) (Nr ?_)))
   exact At_retD fun w q => run_leaves0 (s := sn) (i := 0) (x := true) (by rw [actOf_getD]; rfl) (by rw [actOf_getD]; rfl) (by rw [actOf_getD]; rfl) (q.mono (En Z2 (En Z1 (En Z0 (En Z0 (En Z1 D1)))))) fun w q => ⟨sn, rfl, q.mono D3⟩
 try simp only [nr, hb7] at H
 refine Tr (Mv (ptr pb) ?_)
 exact WL_fail call89 rfl c_fail H (K2 Z0 Z0) (fun c w h => run_pan rfl rfl rfl c w h) rfl (.tail (En Z3 (En Z2 (En Z1 D1))))
end
end Go.Proofs
