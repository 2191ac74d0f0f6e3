/- A tree laid out, node by node. -/
import Derived.Test.YtldagpopfebbbaaGreatDoorZO
set_option linter.unusedVariables false
set_option linter.unusedSimpArgs false
namespace Go.Px
def kidsAt : List PT → Nat → List Int
 | [], _ => []
 | t :: l, b => (b : Int) :: kidsAt l (b + t.size)
mutual
def flat : PT → Nat → List FN
 | .node k s n a l, b => ⟨k, s, n, kidsAt l (b + 1), a⟩ :: flats l (b + 1)
def flats : List PT → Nat → List FN
 | [], _ => []
 | t :: l, b => flat t b ++ flats l (b + t.size)
end
mutual
theorem flat_len : ∀ (x : PT) (b : Nat), (flat x b).length = x.size
 | .node k s n a l, b => by unfold flat PT.size; rw [List.length_cons, flats_len l]
theorem flats_len : ∀ (l : List PT) (b : Nat), (flats l b).length = sizes l
 | [], b => by unfold flats sizes; rfl
 | t :: l, b => by unfold flats sizes; rw [List.length_append, flat_len t, flats_len l]
end
def addKids (fs : List FN) (p : Nat) (ks : List Int) : List FN := fs.modify p fun f => { f with kids := f.kids ++ ks }
theorem addKid_eq (fs : List FN) (p : Nat) (a : Int) : addKid fs p a = addKids fs p [a] := by
 unfold addKid addKids
 apply List.ext_getElem?
 intro i
 cases h : fs[p]? with
 | none =>
  simp only [List.getElem?_modify]
  by_cases e : p = i
  · subst e; simp [h]
  · simp [e]
 | some f =>
  simp only [List.getElem?_modify, List.getElem?_set]
  by_cases e : p = i
  · subst e
    obtain ⟨h1, h2⟩ := List.getElem?_eq_some_iff.1 h
    subst h2
    simp [h1]
  · simp [e]
theorem addKids_app {A B : List FN} {p : Nat} {ks : List Int} (h : p < A.length) : addKids (A ++ B) p ks = addKids A p ks ++ B := by
 unfold addKids
 apply List.ext_getElem?
 intro i
 by_cases hi : i < A.length
 · rw [List.getElem?_modify, List.getElem?_append_left hi, List.getElem?_append_left (by simpa using hi), List.getElem?_modify]
 · have e : ¬ p = i := by omega
   rw [List.getElem?_modify, List.getElem?_append_right (by omega), List.getElem?_append_right (by simpa using hi)]
   simp [e]
theorem addKids_two (A : List FN) (p : Nat) (a : Int) (ks : List Int) : addKids (addKids A p [a]) p ks = addKids A p (a :: ks) := by
 unfold addKids
 apply List.ext_getElem?
 intro i
 simp only [List.getElem?_modify]
 by_cases e : p = i <;> cases A[i]? <;> simp [e]
theorem addKids_nil (A : List FN) (p : Nat) : addKids A p [] = A := by
 unfold addKids
 apply List.ext_getElem?
 intro i
 simp only [List.getElem?_modify]
 by_cases e : p = i <;> cases A[i]? <;> simp [e]
theorem addKids_length (A : List FN) (p : Nat) (ks : List Int) : (addKids A p ks).length = A.length := by unfold addKids; simp
theorem addKids_last (A : List FN) (f : FN) (ks : List Int) : addKids (A ++ [f]) A.length ks = A ++ [{ f with kids := f.kids ++ ks }] := by
 induction A with
 | nil => rfl
 | cons a A ih =>
  show a :: addKids (A ++ [f]) A.length ks = _
  rw [ih]; rfl
mutual
theorem layK_tree : ∀ (x : PT) (p k : Nat) (st : List (PT × Int)) (fs : List FN), p < fs.length → layK (x.size + k) ((x, (p : Int)) :: st) fs = layK k st (addKids fs p [(fs.length : Int)] ++ flat x fs.length)
 | .node kk s n a l, p, k, st, fs, hp => by
  have e : (PT.node kk s n a l).size + k = (sizes l + k) + 1 := by unfold PT.size; omega
  rw [e]
  show layK (sizes l + k) (l.map (fun c => (c, (fs.length : Int))) ++ st) (bif decide (0 ≤ (p : Int)) then addKid (fs ++ [⟨kk, s, n, [], a⟩]) (p : Int).toNat fs.length else fs ++ [⟨kk, s, n, [], a⟩]) = _
  rw [show decide (0 ≤ (p : Int)) = true by simp, cond_true, Int.toNat_natCast, addKid_eq, addKids_app hp]
  have hl : (addKids fs p [(fs.length : Int)] ++ ([⟨kk, s, n, [], a⟩] : List FN)).length = fs.length + 1 := by simp [addKids_length]
  rw [layK_list l fs.length k st _ (by rw [hl]; omega), hl]
  have h2 := addKids_last (addKids fs p [(fs.length : Int)]) ⟨kk, s, n, [], a⟩ (kidsAt l (fs.length + 1))
  rw [addKids_length] at h2
  rw [h2, List.append_assoc]
  unfold flat
  rfl
theorem layK_list : ∀ (l : List PT) (p k : Nat) (st : List (PT × Int)) (fs : List FN), p < fs.length → layK (sizes l + k) (l.map (fun c => (c, (p : Int))) ++ st) fs = layK k st (addKids fs p (kidsAt l fs.length) ++ flats l fs.length)
 | [], p, k, st, fs, hp => by unfold sizes kidsAt flats; rw [addKids_nil, List.append_nil, Nat.zero_add]; rfl
 | x :: l, p, k, st, fs, hp => by
  unfold sizes
  rw [Nat.add_assoc, List.map_cons, List.cons_append, layK_tree x p _ _ fs hp]
  have hl : (addKids fs p [(fs.length : Int)] ++ flat x fs.length).length = fs.length + x.size := by rw [List.length_append, addKids_length, flat_len]
  rw [layK_list l p k st _ (by rw [hl]; omega), hl, addKids_app (by rw [addKids_length]; exact hp), addKids_two, List.append_assoc]
  rfl
end
end Go.Px
namespace Go.Proofs
open Go.Px
theorem lay_flat (x : PT) : lay x = flat x 0 := by
 obtain ⟨kk, s, n, a, l⟩ := x
 unfold lay
 have e : (PT.node kk s n a l).size = sizes l + 0 + 1 := by unfold PT.size; omega
 rw [e]
 show layK (sizes l + 0) (l.map (fun c => (c, ((0 : Nat) : Int))) ++ []) [⟨kk, s, n, [], a⟩] = _
 rw [layK_list l 0 0 [] [⟨kk, s, n, [], a⟩] (by simp)]
 have h2 := addKids_last [] ⟨kk, s, n, [], a⟩ (kidsAt l 1)
 unfold flat layK
 show addKids ([] ++ [⟨kk, s, n, [], a⟩]) ([] : List FN).length (kidsAt l 1) ++ flats l 1 = _
 rw [h2]; rfl
theorem kidsAt_len : ∀ (l : List PT) (b : Nat), (kidsAt l b).length = l.length
 | [], b => rfl
 | t :: l, b => by unfold kidsAt; rw [List.length_cons, kidsAt_len l, List.length_cons]
mutual
theorem flat_kids : ∀ (x : PT) (b : Nat), ∀ f ∈ flat x b, f.kids.length ≤ x.size
 | .node k s n a l, b, f, hf => by
  unfold flat at hf
  unfold PT.size
  rcases List.mem_cons.1 hf with rfl | hf
  · show (kidsAt l (b + 1)).length ≤ _
    rw [kidsAt_len]
    have := len_sizes l
    omega
  · have := flats_kids l (b + 1) f hf
    omega
theorem flats_kids : ∀ (l : List PT) (b : Nat), ∀ f ∈ flats l b, f.kids.length ≤ sizes l
 | [], b, f, hf => by unfold flats at hf; cases hf
 | t :: l, b, f, hf => by
  unfold flats at hf
  unfold sizes
  rcases List.mem_append.1 hf with hf | hf
  · have := flat_kids t b f hf
    omega
  · have := flats_kids l (b + t.size) f hf
    omega
end
theorem lay_len (x : PT) : (lay x).length = x.size := by rw [lay_flat, flat_len]
theorem lay_kids (x : PT) : ∀ f ∈ lay x, f.kids.length ≤ x.size := fun f hf => flat_kids x 0 f (by rw [← lay_flat]; exact hf)
/-- from b on, R is x laid out -/
def Emb (R : List FN) (b : Nat) (x : PT) : Prop := ∀ (i : Nat) f, (flat x b)[i]? = some f → R[b + i]? = some f
def Embs (R : List FN) (b : Nat) (l : List PT) : Prop := ∀ (i : Nat) f, (flats l b)[i]? = some f → R[b + i]? = some f
theorem emb_lay (x : PT) : Emb (lay x) 0 x := fun i f h => by rw [lay_flat, Nat.zero_add]; exact h
theorem emb_node {R : List FN} {b : Nat} {k n a : Int} {s : Bs} {l : List PT} (h : Emb R b (.node k s n a l)) : R[b]? = some ⟨k, s, n, kidsAt l (b + 1), a⟩ ∧ Embs R (b + 1) l := by
 refine ⟨h 0 _ (by unfold flat; rfl), fun i f hf => ?_⟩
 have := h (i + 1) f (by unfold flat; exact hf)
 rw [← this]; congr 1; omega
theorem embs_cons {R : List FN} {b : Nat} {x : PT} {l : List PT} (h : Embs R b (x :: l)) : Emb R b x ∧ Embs R (b + x.size) l := by
 have h2 : ∀ (i : Nat) f, (flat x b ++ flats l (b + x.size))[i]? = some f → R[b + i]? = some f := fun i f hf => h i f (by unfold flats; exact hf)
 refine ⟨fun i f hf => h2 i f ?_, fun i f hf => ?_⟩
 · rw [List.getElem?_append_left (List.getElem?_eq_some_iff.1 hf).1]; exact hf
 · have := h2 (x.size + i) f (by rw [List.getElem?_append_right (by rw [flat_len]; omega), flat_len]; rw [← hf]; congr 1; omega)
   rw [← this]; congr 1; omega
theorem emb_head {R : List FN} {b : Nat} {x : PT} (h : Emb R b x) : R[b]? = some ⟨x.kind, x.text, x.num, kidsAt x.kids (b + 1), x.pos⟩ := by
 obtain ⟨k, s, n, a, l⟩ := x; exact (emb_node h).1
theorem whole_er {l : Bs} {K N kind : Nat} {a er : Int} (h : wholeB l K N kind = some (.inr (a, er))) : er ≠ 0 := by
 unfold wholeB at h
 cases ht : tokensB l K with
 | none => rw [ht] at h; cases h
 | some r =>
  rw [ht] at h
  cases r with
  | inr e => cases h; have := tokensB_err ht; omega
  | inl ts =>
   dsimp only at h
   cases g : decide (0 ≤ (depthL 64 ts 0 0 0 (-1)).2) <;> rw [g] at h
   case true => cases h; decide
   simp only [cond_false] at h
   cases hr : runM K (gr K N) kind ts with
   | none => rw [hr] at h; cases h
   | some q =>
    rw [hr] at h
    cases q with
    | error a => cases h; decide
    | ok p => obtain ⟨y, ts'⟩ := p; cases h
end Go.Proofs

namespace Go.Proofs
open Go.Px
section
variable {L : Bs} {K i : Nat} {op : List Bool} {c : UInt8} {r : Bs}
theorem drop_get (h : L.drop i = c :: r) : L[i]? = some c ∧ i < L.length ∧ L.drop (i + 1) = r := by
 have h1 : i < L.length := by
  rcases Nat.lt_or_ge i L.length with h1 | h1
  · exact h1
  · rw [List.drop_eq_nil_of_le h1] at h; cases h
 rw [List.drop_eq_getElem_cons h1] at h
 obtain ⟨h2, h3⟩ := List.cons.inj h
 exact ⟨by rw [List.getElem?_eq_getElem h1, h2], h1, h3⟩
theorem has_not {x : Bs} {d : UInt8} {y : Bs} (h : L.drop i = c :: r) (hx : x = d :: y) (hd : (c == d) = false) : hasB L i x = false := by
 subst hx
 unfold hasB
 rw [h, List.length_cons, List.take_succ_cons]
 show (c == d && _) = false
 rw [hd]; rfl
theorem blanks_at (hK : 1 ≤ K) (h : L.drop i = c :: r) (h1 : blankB c = false) (h2 : (c == 47) = false) : blanksK L K i = some (true, i) := by
 obtain ⟨k, rfl⟩ : ∃ k, K = k + 1 := ⟨K - 1, by omega⟩
 rw [blanksK, (drop_get h).1]
 dsimp only
 rw [h1, has_not h rfl h2, has_not h rfl h2]
 rfl
theorem blanks_sp (h : L.drop i = 32 :: r) : blanksK L (K + 1) i = blanksK L K (i + 1) := by
 rw [blanksK, (drop_get h).1]
 rfl
theorem blanks_end (hK : 1 ≤ K) (h : L.drop i = []) (hi : i ≤ L.length) : blanksK L K i = some (true, i) ∧ i = L.length := by
 have h1 : i = L.length := by
  rcases Nat.lt_or_ge i L.length with h1 | h1
  · rw [List.drop_eq_getElem_cons h1] at h; cases h
  · omega
 obtain ⟨k, rfl⟩ : ∃ k, K = k + 1 := ⟨K - 1, by omega⟩
 rw [blanksK, h1, List.getElem?_eq_none (Nat.le_refl _)]
 exact ⟨rfl, rfl⟩
/-- no longer sign begins with these two -/
def noSign (c d : UInt8) : Bool := !Lib.contains [32, 61, 61, 61, 32, 33, 61, 61, 32, 62, 62, 62, 32] [32, c, d] && !Lib.contains [32, 61, 62, 32, 43, 61, 32, 45, 61, 32, 42, 61, 32, 37, 61, 32, 60, 61, 32, 62, 61, 32, 60, 60, 32, 62, 62, 32, 38, 38, 32, 124, 124, 32] [32, c, d]
theorem contains_pre {s x y : Bs} (h : Lib.contains s x = false) : Lib.contains s (x ++ y) = false := by
 unfold Lib.contains at h ⊢
 simp only [decide_eq_false_iff_not] at h ⊢
 intro h2
 rcases Lib.index_spec s (x ++ y) with ⟨h3, _⟩ | ⟨i, h3, h4, h5, _⟩
 · omega
 · rcases Lib.index_spec s x with ⟨h6, h7⟩ | ⟨j, h6, _⟩
   · have := h7 i h4
     unfold Lib.occAt at h5 this
     rw [List.isPrefixOf_iff_prefix] at h5
     have h8 : x <+: s.drop i := (List.prefix_append x y).trans h5
     rw [← List.isPrefixOf_iff_prefix, this] at h8
     cases h8
   · omega
/-- a sign of one byte: no longer one stands there -/
theorem sign_one (h : L.drop i = c :: r) (h1 : blankB c = false) (hs : Lib.contains ([32, 123, 32, 125] ++ [32, 40, 32, 41, 32, 91, 32, 93, 32, 46, 32, 44, 32, 59, 32, 58, 32, 63, 32, 61, 32, 43, 32, 45, 32, 42, 32, 37, 32, 33, 32, 126, 32, 60, 32, 62, 32, 38, 32, 124, 32, 94, 32]) [32, c, 32] = true)
 (h2 : ∀ d, r.head? = some d → noSign c d = true) : signL L i signs3 = ⟨9, [c], i, (i : Int) + 1⟩ := by
 obtain ⟨hc, hil, hr⟩ := drop_get h
 have key : ∀ (n : Nat) (s : Bs) (rest : List (Nat × Bs)), 2 ≤ n → (∀ d, r.head? = some d → Lib.contains s [32, c, d] = false) → signL L i ((n, s) :: rest) = signL L i rest := fun n s rest hn hd => by
  rw [signL]
  cases g : decide (L.length - i < n) with
  | true => rfl
  | false =>
   simp only [decide_eq_false_iff_not] at g
   dsimp only [cond_false]
   have ht : (cutT L 9 i (i + n)).text = c :: r.take (n - 1) := by
    show (L.drop i).take (i + n - i) = _
    rw [h, Nat.add_sub_cancel_left, show n = (n - 1) + 1 by omega, List.take_succ_cons]; rfl
   obtain ⟨d, r', rfl⟩ : ∃ d r', r = d :: r' := by
    cases r with
    | nil =>
     have := congrArg List.length h
     rw [List.length_drop, List.length_cons, List.length_nil] at this
     omega
    | cons d r' => exact ⟨d, r', rfl⟩
   have hno : Lib.contains s ([32] ++ (cutT L 9 i (i + n)).text ++ [32]) = false := by
    rw [ht, show n - 1 = (n - 2) + 1 by omega, List.take_succ_cons]
    exact contains_pre (x := [32, c, d]) (y := r'.take (n - 2) ++ [32]) (hd d rfl)
   rw [hno]
   simp only [Bool.not_false, Bool.or_true, cond_true]
 unfold signs3
 rw [key 3 _ _ (by decide) fun d hd => (by have := h2 d hd; unfold noSign at this; simp only [Bool.and_eq_true, Bool.not_eq_true'] at this; exact this.1), key 2 _ _ (by decide) fun d hd => (by have := h2 d hd; unfold noSign at this; simp only [Bool.and_eq_true, Bool.not_eq_true'] at this; exact this.2), signL]
 have ht : (cutT L 9 i (i + 1)).text = [c] := by
  show (L.drop i).take (i + 1 - i) = _
  rw [h, Nat.add_sub_cancel_left]; rfl
 rw [show decide (L.length - i < 1) = false by rw [decide_eq_false_iff_not]; omega]
 dsimp only [cond_false]
 rw [ht]
 have : (([c] : Bs).any blankB || !Lib.contains ([32, 123, 32, 125] ++ [32, 40, 32, 41, 32, 91, 32, 93, 32, 46, 32, 44, 32, 59, 32, 58, 32, 63, 32, 61, 32, 43, 32, 45, 32, 42, 32, 37, 32, 33, 32, 126, 32, 60, 32, 62, 32, 38, 32, 124, 32, 94, 32]) ([32] ++ [c] ++ [32])) = false := by
  rw [show ([32] ++ [c] ++ [32] : Bs) = [32, c, 32] from rfl, hs]
  simp [h1]
 rw [this]
 show cutT L 9 i (i + 1) = _
 unfold cutT
 rw [show (L.drop i).take (i + 1 - i) = [c] from ht]
 simp
def opAfter (c : UInt8) (op : List Bool) : List Bool := bif c == 123 then false :: op else bif c == 125 then op.tail else op
/-- a sign of one byte -/
theorem next_sign (hK : 1 ≤ K) (h : L.drop i = c :: r) (h1 : blankB c = false) (h3 : (c == 47 || letterB c || digitB c || c == 34 || c == 39 || c == 96) = false) (h4 : (c == 125 && op.head?.getD false) = false)
 (hs : Lib.contains ([32, 123, 32, 125] ++ [32, 40, 32, 41, 32, 91, 32, 93, 32, 46, 32, 44, 32, 59, 32, 58, 32, 63, 32, 61, 32, 43, 32, 45, 32, 42, 32, 37, 32, 33, 32, 126, 32, 60, 32, 62, 32, 38, 32, 124, 32, 94, 32]) [32, c, 32] = true)
 (h2 : ∀ d, r.head? = some d → noSign c d = true) : nextK L K i op = some (.tok ⟨9, [c], i, (i : Int) + 1⟩ (i + 1) (opAfter c op)) := by
 simp only [Bool.or_eq_false_iff] at h3
 obtain ⟨⟨⟨⟨⟨a1, a2⟩, a3⟩, a4⟩, a5⟩, a6⟩ := h3
 obtain ⟨hc, hil, hr⟩ := drop_get h
 unfold nextK
 rw [blanks_at hK h h1 a1]
 dsimp only
 rw [show decide (i = L.length) = false by simp; omega]
 simp only [cond_false]
 rw [tokenK, hc]
 simp only [a2, a3, a4, a5, a6, h4, cond_false, Bool.or_false, Bool.false_or, sign_one h h1 hs h2]
 show some (Nx.tok _ ((i : Int) + 1).toNat _) = _
 unfold opAfter
 rw [show ((i : Int) + 1).toNat = i + 1 by omega]
 congr 2
 simp
/-- a word of one byte -/
theorem next_word (hK : 1 ≤ K) (h : L.drop i = c :: r) (h1 : letterB c = true) (h2 : ∀ d, r.head? = some d → (letterB d || digitB d) = false) (hb : (blankB c || c == 47 || reservedB [c]) = false) : nextK L K i op = some (.tok ⟨1, [c], i, (i : Int) + 1⟩ (i + 1) op) := by
 simp only [Bool.or_eq_false_iff] at hb
 obtain ⟨hc, hil, hr⟩ := drop_get h
 unfold nextK
 rw [blanks_at hK h hb.1.1 hb.1.2]
 dsimp only
 rw [show decide (i = L.length) = false by simp; omega]
 simp only [cond_false]
 rw [tokenK, hc]
 have hrun : runOf (fun c => letterB c || digitB c) L i = 1 := by
  unfold runOf
  rw [h, List.takeWhile_cons, if_pos (by rw [h1]; rfl)]
  cases r with
  | nil => rfl
  | cons d r => rw [List.takeWhile_cons, if_neg (by rw [h2 d rfl]; decide)]; rfl
 have hcut : cutT L 1 i (i + 1) = ⟨1, [c], i, (i : Int) + 1⟩ := by
  unfold cutT
  rw [h, Nat.add_sub_cancel_left]; simp
 have hw : wordT L i = ⟨1, [c], i, (i : Int) + 1⟩ := by
  unfold wordT
  dsimp only
  rw [hrun, hcut]
  simp only [hb.2, cond_false]
 simp only [h1, cond_true, hw]
 show some (Nx.tok _ ((i : Int) + 1).toNat _) = _
 rw [show ((i : Int) + 1).toNat = i + 1 by omega]
/-- a digit by itself -/
theorem next_digit (hK : 1 ≤ K) (h : L.drop i = c :: r) (h1 : digitB c = true) (h2 : ∀ d, r.head? = some d → (letterB d || digitB d) = false) (hb : (blankB c || c == 47 || letterB c) = false) : nextK L K i op = some (.tok ⟨3, [c], i, (i : Int) + 1⟩ (i + 1) op) := by
 simp only [Bool.or_eq_false_iff] at hb
 obtain ⟨hc, hil, hr⟩ := drop_get h
 unfold nextK
 rw [blanks_at hK h hb.1.1 hb.1.2]
 dsimp only
 rw [show decide (i = L.length) = false by simp; omega]
 simp only [cond_false]
 rw [tokenK, hc]
 have hrun : runOf digitB L i = 1 := by
  unfold runOf
  rw [h, List.takeWhile_cons, if_pos h1]
  cases r with
  | nil => rfl
  | cons d r =>
   have := h2 d rfl
   simp only [Bool.or_eq_false_iff] at this
   rw [List.takeWhile_cons, if_neg (by rw [this.2]; decide)]; rfl
 have htk : (L.drop i).take (i + 1 - i) = [c] := by rw [h, Nat.add_sub_cancel_left]; rfl
 have hla : letterAt L (i + 1) = false := by
  unfold letterAt
  have : L[i + 1]? = r.head? := by rw [← hr, List.head?_drop]
  rw [this]
  cases r with
  | nil => rfl
  | cons d r =>
   have := h2 d rfl
   simp only [Bool.or_eq_false_iff] at this
   exact this.1
 have hnum : ¬ numV [c] > 9007199254740991 := by
  unfold numV
  have := c.toNat_lt
  simp only [List.foldl_cons, List.foldl_nil]
  omega
 have hw : numberT L i = ⟨3, [c], i, (i : Int) + 1⟩ := by
  unfold numberT
  rw [hrun]
  dsimp only
  rw [htk, show decide (numV [c] > 9007199254740991) = false by simpa using hnum, show decide (i + 1 > i + 1) = false by simp, hla, Bool.and_false]
  simp only [cond_false]
  unfold cutT
  rw [htk]; simp
 simp only [hb.2, h1, cond_true, cond_false, hw]
 show some (Nx.tok _ ((i : Int) + 1).toNat _) = _
 rw [show ((i : Int) + 1).toNat = i + 1 by omega]
theorem next_end (hK : 1 ≤ K) (h : L.drop i = []) (hi : i ≤ L.length) : nextK L K i op = some (.tok ⟨10, [], i, i⟩ i op) ∧ i = L.length := by
 obtain ⟨h1, h2⟩ := blanks_end hK h hi
 unfold nextK
 rw [h1]
 dsimp only
 rw [show decide (i = L.length) = true by simpa using h2]
 exact ⟨rfl, h2⟩
theorem tokens_step {k n j : Nat} {t : Tk} {op' : List Bool} {acc : List Tk} (h : nextK L K i op = some (.tok t j op')) (hk : t.kind ≠ 10) (hn : n ≠ 8192) : tokensK L K (k + 1) n i op acc = tokensK L K k (n + 1) j op' (acc ++ [t]) := by
 rw [tokensK, h]
 dsimp only
 rw [show (n == 8192) = false by simpa using hn, show (t.kind == 10) = false by simpa using hk]
 rfl
theorem tokens_stop {k n : Nat} {t : Tk} {j : Nat} {op' : List Bool} {acc : List Tk} (h : nextK L K i op = some (.tok t j op')) (hk : t.kind = 10) : tokensK L K (k + 1) n i op acc = some (.inl (acc ++ [t])) := by
 rw [tokensK, h]
 dsimp only
 rw [show (t.kind == 10) = true by simpa using hk, show (t.kind != 10) = false by simp [hk], Bool.and_false]
 rfl
end
/-- a token that ends an expression -/
def Stop (f : Tk) : Prop := f.kind = 10 ∨ (f.kind = 9 ∧ (f.text = [41] ∨ f.text = [93] ∨ f.text = [125] ∨ f.text = [59] ∨ f.text = [44] ∨ f.text = [58]))
abbrev isOp (s : Bs) : Prop := s ≠ [41] ∧ s ≠ [93] ∧ s ≠ [125] ∧ s ≠ [59] ∧ s ≠ [44] ∧ s ≠ [58]
theorem stop_says {f : Tk} (h : Stop f) {s : Bs} (hs : isOp s) : saysB f s = false := by
 obtain ⟨h1, h2, h3, h4, h5, h6⟩ := hs
 unfold saysB
 rcases h with h | ⟨h, h0 | h0 | h0 | h0 | h0 | h0⟩
 · rw [h]; rfl
 all_goals
  rw [h, h0]
  show (true && _) = false
  rw [Bool.true_and]
  simpa using (fun e => by simp_all : ¬ (_ = s))
section
variable {f : Tk} {r : List Tk} {α β : Type}
theorem M_bind {α β : Type} {m : M α} {k : α → M β} {ts ts' : List Tk} {x : α} (h : m ts = some (.ok (x, ts'))) : (m >>= k) ts = k x ts' := by
 show M.bind m k ts = _
 unfold M.bind
 rw [h]
theorem is_stop (hf : Stop f) {s : Bs} (hs : isOp s) : isM s (f :: r) = some (.ok (false, f :: r)) := by
 show some (Except.ok (saysB f s, f :: r)) = _
 rw [stop_says hf hs]
theorem take_stop (hf : Stop f) {s : Bs} (hs : isOp s) : takeM s (f :: r) = some (.ok (false, f :: r)) := by
 unfold takeM
 rw [M_bind (is_stop hf hs)]
 rfl
theorem takeOne_stop (hf : Stop f) : ∀ {l : List Bs}, (∀ s ∈ l, isOp s) → takeOne l (f :: r) = some (.ok (none, f :: r))
 | [], _ => rfl
 | s :: l, h => by
  unfold takeOne
  rw [M_bind (take_stop hf (h s (by simp)))]
  exact takeOne_stop hf fun x hx => h x (by simp [hx])
theorem takeAny_stop (hf : Stop f) : ∀ {l : List Bs}, (∀ s ∈ l, isOp s) → takeAny l (f :: r) = some (.ok (false, f :: r))
 | [], _ => rfl
 | s :: l, h => by
  unfold takeAny
  rw [M_bind (take_stop hf (h s (by simp)))]
  exact takeAny_stop hf fun x hx => h x (by simp [hx])
variable {K n : Nat} {t : Tk} {l : List Tk} {x : PT}
theorem level_stop (hf : Stop f) {j : Nat} (hj : j ≤ 9) (hK : 1 ≤ K) (h : gr K n (.level (j + 1)) (t :: l) = some (.ok (x, f :: r))) : gr K (n + 1) (.level j) (t :: l) = some (.ok (x, f :: r)) := by
 show levelM K (gr K n) j (t :: l) = _
 unfold levelM
 obtain ⟨sl, hsl, hop⟩ : ∃ sl, sgn j = some sl ∧ ∀ s ∈ sl, isOp s := by
  match j, hj with
  | 0, _ => exact ⟨_, rfl, by decide⟩
  | 1, _ => exact ⟨_, rfl, by decide⟩
  | 2, _ => exact ⟨_, rfl, by decide⟩
  | 3, _ => exact ⟨_, rfl, by decide⟩
  | 4, _ => exact ⟨_, rfl, by decide⟩
  | 5, _ => exact ⟨_, rfl, by decide⟩
  | 6, _ => exact ⟨_, rfl, by decide⟩
  | 7, _ => exact ⟨_, rfl, by decide⟩
  | 8, _ => exact ⟨_, rfl, by decide⟩
  | 9, _ => exact ⟨_, rfl, by decide⟩
 rw [hsl]
 dsimp only
 rw [M_bind (m := nowM) (ts' := t :: l) (x := t) rfl, M_bind h]
 obtain ⟨k, rfl⟩ : ∃ k, K = k + 1 := ⟨K - 1, by omega⟩
 unfold againM
 rw [M_bind (takeOne_stop hf hop)]
 rfl
/-- an expression that is no more than what stands in front of its end -/
theorem expr_stop (hf : Stop f) (hK : 1 ≤ K) (ht : ∀ s ∈ [[33], [45], [126], [116, 121, 112, 101, 111, 102]], saysB t s = false) (ha : arrowM (t :: l) = some (.ok (false, t :: l))) (h : gr K n .postf (t :: l) = some (.ok (x, f :: r))) :
 gr K (n + 14) .expr (t :: l) = some (.ok (x, f :: r)) := by
 have h11 : gr K (n + 1) .unary (t :: l) = some (.ok (x, f :: r)) := by
  show unaryM (gr K n) (t :: l) = _
  unfold unaryM
  rw [M_bind (m := nowM) (ts' := t :: l) (x := t) rfl]
  have : takeAny [[33], [45], [126], [116, 121, 112, 101, 111, 102]] (t :: l) = some (.ok (false, t :: l)) := by
   have hh : ∀ (q : List Bs), (∀ s ∈ q, saysB t s = false) → takeAny q (t :: l) = some (.ok (false, t :: l)) := fun q => by
    induction q with
    | nil => exact fun _ => rfl
    | cons s q ih =>
     intro hq
     unfold takeAny
     have : takeM s (t :: l) = some (.ok (false, t :: l)) := by
      unfold takeM
      rw [M_bind (m := isM s) (ts' := t :: l) (x := false) (by show some (Except.ok (saysB t s, t :: l)) = _; rw [hq s (by simp)])]
      rfl
     rw [M_bind this]
     exact ih fun x hx => hq x (by simp [hx])
   exact hh _ ht
  rw [M_bind this]
  exact h
 have h10 : gr K (n + 2) (.level 10) (t :: l) = some (.ok (x, f :: r)) := h11
 have h0 := level_stop hf (j := 0) (by decide) hK (level_stop hf (j := 1) (by decide) hK (level_stop hf (j := 2) (by decide) hK (level_stop hf (j := 3) (by decide) hK (level_stop hf (j := 4) (by decide) hK
  (level_stop hf (j := 5) (by decide) hK (level_stop hf (j := 6) (by decide) hK (level_stop hf (j := 7) (by decide) hK (level_stop hf (j := 8) (by decide) hK (level_stop hf (j := 9) (by decide) hK h10)))))))))
 have hc : gr K (n + 13) .cond (t :: l) = some (.ok (x, f :: r)) := by
  show condM (gr K (n + 12)) (t :: l) = _
  unfold condM
  rw [M_bind (m := nowM) (ts' := t :: l) (x := t) rfl, M_bind h0, M_bind (take_stop hf (by decide))]
  rfl
 show exprM (gr K (n + 13)) (t :: l) = _
 unfold exprM
 rw [M_bind (m := nowM) (ts' := t :: l) (x := t) rfl, M_bind ha]
 show (gr K (n + 13) .cond >>= _) (t :: l) = _
 rw [M_bind hc, M_bind (m := nowM) (ts' := f :: r) (x := f) rfl, M_bind (takeAny_stop hf (by decide))]
 rfl
end
end Go.Proofs

namespace Go.Proofs
open Go.Px
def partB : Nat → Bs
 | 0 => [46, 98]
 | 1 => [91, 48, 93]
 | 2 => [40, 49, 41]
 | _ => [33]
def chainB (l : List Nat) : Bs := (l.map partB).flatten
def tk9 (c : UInt8) (i : Nat) : Tk := ⟨9, [c], i, (i : Int) + 1⟩
def tk1 (c : UInt8) (i : Nat) : Tk := ⟨1, [c], i, (i : Int) + 1⟩
def tk3 (c : UInt8) (i : Nat) : Tk := ⟨3, [c], i, (i : Int) + 1⟩
def ptk : Nat → Nat → List Tk
 | 0, i => [tk9 46 i, tk1 98 (i + 1)]
 | 1, i => [tk9 91 i, tk3 48 (i + 1), tk9 93 (i + 1 + 1)]
 | 2, i => [tk9 40 i, tk3 49 (i + 1), tk9 41 (i + 1 + 1)]
 | _, i => [tk9 33 i]
def chT : List Nat → Nat → List Tk
 | [], i => [⟨10, [], i, i⟩]
 | p :: l, i => ptk p i ++ chT l (i + (partB p).length)
theorem chain_head : ∀ {l : List Nat} {d : UInt8}, (chainB l).head? = some d → d ∈ ([46, 91, 40, 33] : List UInt8)
 | [], d, h => by cases h
 | 0 :: l, d, h => by cases h; decide
 | 1 :: l, d, h => by cases h; decide
 | 2 :: l, d, h => by cases h; decide
 | (p + 3) :: l, d, h => by cases h; decide
theorem head_all : ∀ d ∈ ([46, 91, 40, 33] : List UInt8), (letterB d || digitB d) = false ∧ noSign 93 d = true ∧ noSign 41 d = true ∧ noSign 33 d = true := by decide +kernel
section
variable {L : Bs} {K : Nat}
theorem ch_sign {c : UInt8} {r : Bs} {i n k : Nat} {acc : List Tk} (hK : 1 ≤ K) (h : L.drop i = c :: r) (hc : c ∈ ([46, 91, 93, 40, 41, 33] : List UInt8)) (h2 : ∀ d, r.head? = some d → noSign c d = true) (hn : n < 8192) :
 tokensK L K (k + 1) n i [] acc = tokensK L K k (n + 1) (i + 1) [] (acc ++ [tk9 c i]) := by
 have key : ∀ c ∈ ([46, 91, 93, 40, 41, 33] : List UInt8), blankB c = false ∧ (c == 47 || letterB c || digitB c || c == 34 || c == 39 || c == 96) = false ∧ (c == 125 && ([] : List Bool).head?.getD false) = false ∧
  Lib.contains ([32, 123, 32, 125] ++ [32, 40, 32, 41, 32, 91, 32, 93, 32, 46, 32, 44, 32, 59, 32, 58, 32, 63, 32, 61, 32, 43, 32, 45, 32, 42, 32, 37, 32, 33, 32, 126, 32, 60, 32, 62, 32, 38, 32, 124, 32, 94, 32]) [32, c, 32] = true ∧ opAfter c [] = [] := by decide +kernel
 obtain ⟨k1, k2, k3, k4, k5⟩ := key c hc
 have := next_sign (op := []) hK h k1 k2 k3 k4 h2
 rw [k5] at this
 exact tokens_step this (show (9 : Int) ≠ 10 by decide) (by omega)
theorem ch_word {r : Bs} {i n k : Nat} {acc : List Tk} (hK : 1 ≤ K) (c : UInt8) (hc : c = 97 ∨ c = 98) (h : L.drop i = c :: r) (h2 : ∀ d, r.head? = some d → (letterB d || digitB d) = false) (hn : n < 8192) :
 tokensK L K (k + 1) n i [] acc = tokensK L K k (n + 1) (i + 1) [] (acc ++ [tk1 c i]) := by
 have key : letterB c = true ∧ (blankB c || c == 47 || reservedB [c]) = false := by rcases hc with rfl | rfl <;> decide +kernel
 exact tokens_step (next_word hK h key.1 h2 key.2) (show (1 : Int) ≠ 10 by decide) (by omega)
theorem ch_digit {r : Bs} {i n k : Nat} {acc : List Tk} (hK : 1 ≤ K) (c : UInt8) (hc : c = 48 ∨ c = 49) (h : L.drop i = c :: r) (h2 : ∀ d, r.head? = some d → (letterB d || digitB d) = false) (hn : n < 8192) :
 tokensK L K (k + 1) n i [] acc = tokensK L K k (n + 1) (i + 1) [] (acc ++ [tk3 c i]) := by
 have key : digitB c = true ∧ (blankB c || c == 47 || letterB c) = false := by rcases hc with rfl | rfl <;> decide +kernel
 exact tokens_step (next_digit hK h key.1 h2 key.2) (show (3 : Int) ≠ 10 by decide) (by omega)
theorem chain_tokens (hK : 1 ≤ K) : ∀ (l : List Nat) (i n k : Nat) (acc : List Tk), L.drop i = chainB l → i ≤ L.length → 3 * l.length < k → n + 3 * l.length < 8192 → tokensK L K k n i [] acc = some (.inl (acc ++ chT l i))
 | [], i, n, k, acc, h, hi, hk, hn => by
  obtain ⟨k, rfl⟩ : ∃ k', k = k' + 1 := ⟨k - 1, by omega⟩
  exact tokens_stop (next_end hK h hi).1 rfl
 | p :: l, i, n, k, acc, h, hi, hk, hn => by
  simp only [List.length_cons] at hk hn
  obtain ⟨k, rfl⟩ : ∃ k', k = k' + 3 := ⟨k - 3, by omega⟩
  have hh : ∀ d, (chainB l).head? = some d → _ := fun d hd => head_all d (chain_head hd)
  match p, h with
  | 0, h =>
   have h : L.drop i = 46 :: 98 :: chainB l := h
   obtain ⟨_, h1, h2⟩ := drop_get h
   obtain ⟨_, h3, h4⟩ := drop_get h2
   rw [ch_sign hK h (by decide) (fun d hd => by cases hd; decide +kernel) (by omega), ch_word hK 98 (.inr rfl) h2 (fun d hd => (hh d hd).1) (by omega), chain_tokens hK l (i + 1 + 1) (n + 1 + 1) (k + 1) _ h4 (by omega) (by omega) (by omega)]
   simp only [chT, ptk, partB, List.append_assoc, List.cons_append, List.nil_append, List.length_cons, List.length_nil]
  | 1, h =>
   have h : L.drop i = 91 :: 48 :: 93 :: chainB l := h
   obtain ⟨_, h1, h2⟩ := drop_get h
   obtain ⟨_, h3, h4⟩ := drop_get h2
   obtain ⟨_, h5, h6⟩ := drop_get h4
   rw [ch_sign hK h (by decide) (fun d hd => by cases hd; decide +kernel) (by omega), ch_digit hK 48 (.inl rfl) h2 (fun d hd => by cases hd; decide +kernel) (by omega), ch_sign hK h4 (by decide) (fun d hd => (hh d hd).2.1) (by omega), chain_tokens hK l (i + 1 + 1 + 1) (n + 1 + 1 + 1) k _ h6 (by omega) (by omega) (by omega)]
   simp only [chT, ptk, partB, List.append_assoc, List.cons_append, List.nil_append, List.length_cons, List.length_nil]
  | 2, h =>
   have h : L.drop i = 40 :: 49 :: 41 :: chainB l := h
   obtain ⟨_, h1, h2⟩ := drop_get h
   obtain ⟨_, h3, h4⟩ := drop_get h2
   obtain ⟨_, h5, h6⟩ := drop_get h4
   rw [ch_sign hK h (by decide) (fun d hd => by cases hd; decide +kernel) (by omega), ch_digit hK 49 (.inr rfl) h2 (fun d hd => by cases hd; decide +kernel) (by omega), ch_sign hK h4 (by decide) (fun d hd => (hh d hd).2.2.1) (by omega), chain_tokens hK l (i + 1 + 1 + 1) (n + 1 + 1 + 1) k _ h6 (by omega) (by omega) (by omega)]
   simp only [chT, ptk, partB, List.append_assoc, List.cons_append, List.nil_append, List.length_cons, List.length_nil]
  | p + 3, h =>
   have h : L.drop i = 33 :: chainB l := h
   obtain ⟨_, h1, h2⟩ := drop_get h
   rw [ch_sign hK h (by decide) (fun d hd => (hh d hd).2.2.2) (by omega), chain_tokens hK l (i + 1) (n + 1) (k + 2) _ h2 (by omega) (by omega) (by omega)]
   simp only [chT, ptk, partB, List.append_assoc, List.cons_append, List.nil_append, List.length_cons, List.length_nil]
end
theorem chain_depth : ∀ (l : List Nat) (i j : Nat) (d : Int), (depthL 64 (chT l i) j 0 d (-1)).2 = -1
 | [], i, j, d => rfl
 | 0 :: l, i, j, d => chain_depth l (i + 2) (j + 1 + 1) (max (max d 0) 0)
 | 1 :: l, i, j, d => chain_depth l (i + 3) (j + 1 + 1 + 1) (max (max (max d 1) 1) 0)
 | 2 :: l, i, j, d => chain_depth l (i + 3) (j + 1 + 1 + 1) (max (max (max d 1) 1) 0)
 | (p + 3) :: l, i, j, d => chain_depth l (i + 1) (j + 1) (max d 0)
def wrapC (a : Int) : Nat → Nat → PT → PT
 | 0, i, x => .node 29 [98] 0 a [x]
 | 1, i, x => .node 30 [] 0 a [x, .node 10 [] 0 ((i + 1 : Nat) : Int) []]
 | 2, i, x => .node 27 [] 0 a [x, .node 2 [] 0 (i : Int) [], .node 2 [] 0 ((i + 1 : Nat) : Int) [.node 10 [] 1 ((i + 1 : Nat) : Int) []]]
 | _, i, x => .node 34 [] 0 a [x]
def bldC (a : Int) : List Nat → Nat → PT → PT
 | [], _, x => x
 | p :: l, i, x => bldC a l (i + (partB p).length) (wrapC a p i x)
theorem chT_cons : ∀ (l : List Nat) (i : Nat), ∃ u r, chT l i = u :: r
 | [], i => ⟨_, _, rfl⟩
 | 0 :: l, i => ⟨_, _, rfl⟩
 | 1 :: l, i => ⟨_, _, rfl⟩
 | 2 :: l, i => ⟨_, _, rfl⟩
 | (p + 3) :: l, i => ⟨_, _, rfl⟩
theorem parts_chain {n : Nat} {a : Int} : ∀ (l : List Nat) (i k : Nat) (x : PT), l.length < k → ∃ e : Int, partsM (gr KF (n + 30)) a k x (chT l i) = some (.ok (bldC a l i x, [⟨10, [], e, e⟩]))
 | [], i, k, x, hk => by
  obtain ⟨k, rfl⟩ : ∃ k', k = k' + 1 := ⟨k - 1, by omega⟩
  exact ⟨i, rfl⟩
 | p :: l, i, k, x, hk => by
  obtain ⟨k, rfl⟩ : ∃ k', k = k' + 1 := ⟨k - 1, by omega⟩
  simp only [List.length_cons] at hk
  obtain ⟨u, r, hu⟩ := chT_cons l (i + (partB p).length)
  obtain ⟨e, he⟩ := parts_chain (n := n) (a := a) l (i + (partB p).length) k (wrapC a p i x) (by omega)
  refine ⟨e, ?_⟩
  rw [hu] at he
  show partsM (gr KF (n + 30)) a (k + 1) x (ptk p i ++ chT l (i + (partB p).length)) = some (.ok (bldC a l (i + (partB p).length) (wrapC a p i x), _))
  rw [hu, ← he]
  clear he hu
  rcases p with _ | _ | _ | p
  · kernel_rfl
  · kernel_rfl
  · kernel_rfl
  · kernel_rfl
theorem chain_arrow : ∀ (l : List Nat) (t : Tk), t.kind = 1 → arrowM (t :: chT l 1) = some (.ok (false, t :: chT l 1))
 | l, ⟨kk, s, p, e⟩, h => by
  have h : kk = 1 := h
  subst h
  match l with
  | [] => rfl
  | 0 :: l => rfl
  | 1 :: l => rfl
  | 2 :: l => rfl
  | (p + 3) :: l => rfl
def chainX (l : List Nat) : PT := bldC 0 l 1 (.node 17 [97] 0 0 [])
theorem chain_expr {n : Nat} (l : List Nat) (hl : l.length ≤ 40) : ∃ e : Int, gr KF (n + 45) .expr (tk1 97 0 :: chT l 1) = some (.ok (chainX l, [⟨10, [], e, e⟩])) := by
 obtain ⟨u, r, hu⟩ := chT_cons l 1
 obtain ⟨e, he⟩ := parts_chain (n := n) (a := 0) l 1 KF (.node 17 [97] 0 0 []) (by unfold KF; omega)
 have hp : gr KF (n + 31) .postf (tk1 97 0 :: chT l 1) = some (.ok (chainX l, [⟨10, [], e, e⟩])) := by
  show postfM KF (gr KF (n + 30)) (tk1 97 0 :: chT l 1) = _
  have hq : gr KF (n + 30) .primary (tk1 97 0 :: chT l 1) = some (.ok (.node 17 [97] 0 0 [], chT l 1)) := by
   rw [hu]; kernel_rfl
  unfold postfM
  rw [M_bind (m := nowM) (x := tk1 97 0) (ts' := tk1 97 0 :: chT l 1) rfl, M_bind hq]
  exact he
 exact ⟨e, expr_stop (K := KF) (n := n + 31) (t := tk1 97 0) (l := chT l 1) (f := ⟨10, [], e, e⟩) (r := []) (.inl rfl) (by unfold KF; omega) (by decide) (chain_arrow l (tk1 97 0) rfl) hp⟩
theorem chain_whole (l : List Nat) (hl : l.length ≤ 40) : wholeB (97 :: chainB l) KF NF 1 = some (.inl (chainX l)) := by
 have hlen : (97 :: chainB l).length ≤ 1 + 3 * l.length := by
  have : ∀ l : List Nat, (chainB l).length ≤ 3 * l.length := fun l => by
   induction l with
   | nil => exact Nat.le_refl _
   | cons p l ih =>
    unfold chainB at ih ⊢
    rw [List.map_cons, List.flatten_cons, List.length_append, List.length_cons]
    have : (partB p).length ≤ 3 := by rcases p with _ | _ | _ | p <;> simp [partB]
    omega
  have := this l
  rw [List.length_cons]; omega
 have htk : tokensB (97 :: chainB l) KF = some (.inl (tk1 97 0 :: chT l 1)) := by
  unfold tokensB
  rw [show decide ((97 :: chainB l).length > 65536) = false by rw [decide_eq_false_iff_not]; omega]
  simp only [cond_false]
  unfold KF
  rw [show (20000 : Nat) = 19999 + 1 from rfl, ch_word (by omega) 97 (.inl rfl) (r := chainB l) rfl (fun d hd => (head_all d (chain_head hd)).1) (by omega)]
  exact chain_tokens (by omega) l 1 _ _ _ rfl (by simp) (by omega) (by omega)
 unfold wholeB
 rw [htk]
 dsimp only
 rw [show (depthL 64 (tk1 97 0 :: chT l 1) 0 0 0 (-1)).2 = -1 from chain_depth l 1 1 (max 0 0)]
 rw [show decide ((0 : Int) ≤ -1) = false by decide]
 simp only [cond_false]
 obtain ⟨e, hx⟩ := chain_expr (n := 399955) l hl
 rw [show 399955 + 45 = NF from rfl] at hx
 have hr : runM KF (gr KF NF) 1 (tk1 97 0 :: chT l 1) = some (.ok (chainX l, [⟨10, [], e, e⟩])) := by
  unfold runM
  show (gr KF NF .expr >>= _) _ = _
  rw [M_bind hx]
  rfl
 rw [hr]
def kindC : Nat → Int
 | 0 => 29
 | 1 => 30
 | 2 => 27
 | _ => 34
theorem chain_spine {R : List FN} {a : Int} : ∀ (l : List Nat) (i b : Nat) (x : PT), Emb R b (bldC a l i x) → Emb R (b + l.length) x ∧ ∀ j p, j < l.length → l[l.length - 1 - j]? = some p → ∃ f, R[b + j]? = some f ∧ f.kind = kindC p ∧ f.kids.head? = some ((b + j + 1 : Nat) : Int)
 | [], i, b, x, h => ⟨h, fun j p hj => by simp at hj⟩
 | p :: l, i, b, x, h => by
  obtain ⟨h1, h2⟩ := chain_spine l (i + (partB p).length) b (wrapC a p i x) h
  have h3 : ∃ f, R[b + l.length]? = some f ∧ f.kind = kindC p ∧ f.kids.head? = some ((b + l.length + 1 : Nat) : Int) ∧ Emb R (b + l.length + 1) x := by
   match p, h1 with
   | 0, h1 => obtain ⟨q1, q2⟩ := emb_node h1; exact ⟨_, q1, rfl, rfl, (embs_cons q2).1⟩
   | 1, h1 => obtain ⟨q1, q2⟩ := emb_node h1; exact ⟨_, q1, rfl, rfl, (embs_cons q2).1⟩
   | 2, h1 => obtain ⟨q1, q2⟩ := emb_node h1; exact ⟨_, q1, rfl, rfl, (embs_cons q2).1⟩
   | p + 3, h1 => obtain ⟨q1, q2⟩ := emb_node h1; exact ⟨_, q1, rfl, rfl, (embs_cons q2).1⟩
  obtain ⟨f, f1, f2, f3, f4⟩ := h3
  refine ⟨by rw [List.length_cons, ← Nat.add_assoc]; exact f4, fun j q hj hq => ?_⟩
  rw [List.length_cons] at hj hq
  by_cases hjl : j = l.length
  · subst hjl
    rw [show l.length + 1 - 1 - l.length = 0 by omega] at hq
    obtain rfl : p = q := by simpa using hq
    exact ⟨f, f1, f2, f3⟩
  · refine h2 j q (by omega) ?_
    rw [show l.length + 1 - 1 - j = (l.length - 1 - j) + 1 by omega, List.getElem?_cons_succ] at hq
    exact hq
end Go.Proofs

namespace Go.Proofs
open Go.Px
def openB : Nat → Bs
 | 0 => [40]
 | 1 => [91]
 | 2 => [102, 40]
 | _ => [123, 97, 58, 32]
def shutC : Nat → UInt8
 | 0 => 41
 | 1 => 93
 | 2 => 41
 | _ => 125
def rep (s : Bs) : Nat → Bs
 | 0 => []
 | n + 1 => s ++ rep s n
theorem rep_snoc (s : Bs) : ∀ n, rep s n ++ s = rep s (n + 1)
 | 0 => by simp [rep]
 | n + 1 => by rw [rep, List.append_assoc, rep_snoc s n]; rfl
theorem rep_len (s : Bs) : ∀ n, (rep s n).length = n * s.length
 | 0 => by simp [rep]
 | n + 1 => by rw [rep, List.length_append, rep_len s n, Nat.succ_mul, Nat.add_comm]
def boundB (k n : Nat) : Bs := rep (openB k) n ++ 49 :: rep [shutC k] n
/-- the tokens of one that opens -/
def otk : Nat → Nat → List Tk
 | 0, i => [tk9 40 i]
 | 1, i => [tk9 91 i]
 | 2, i => [tk1 102 i, tk9 40 (i + 1)]
 | _, i => [tk9 123 i, tk1 97 (i + 1), tk9 58 (i + 1 + 1)]
def oT (k : Nat) : Nat → Nat → List Tk
 | 0, _ => []
 | n + 1, i => otk k i ++ oT k n (i + (openB k).length)
def sT (k : Nat) : Nat → Nat → List Tk
 | 0, _ => []
 | n + 1, i => tk9 (shutC k) i :: sT k n (i + 1)
def opn (k : Nat) : Nat → List Bool → List Bool
 | 0, op => op
 | n + 1, op => opn k n (match k with
  | 0 => op
  | 1 => op
  | 2 => op
  | _ => false :: op)
section
variable {L : Bs} {K : Nat}
theorem sgn_step {c : UInt8} {r : Bs} {op : List Bool} {i n k : Nat} {acc : List Tk} (hK : 1 ≤ K) (h : L.drop i = c :: r) (hc : c ∈ ([40, 41, 91, 93, 123, 125, 58] : List UInt8)) (ho : op.head?.getD false = false) (h2 : ∀ d, r.head? = some d → noSign c d = true) (hn : n < 8192) :
 tokensK L K (k + 1) n i op acc = tokensK L K k (n + 1) (i + 1) (opAfter c op) (acc ++ [tk9 c i]) := by
 have key : ∀ c ∈ ([40, 41, 91, 93, 123, 125, 58] : List UInt8), blankB c = false ∧ (c == 47 || letterB c || digitB c || c == 34 || c == 39 || c == 96) = false ∧
  Lib.contains ([32, 123, 32, 125] ++ [32, 40, 32, 41, 32, 91, 32, 93, 32, 46, 32, 44, 32, 59, 32, 58, 32, 63, 32, 61, 32, 43, 32, 45, 32, 42, 32, 37, 32, 33, 32, 126, 32, 60, 32, 62, 32, 38, 32, 124, 32, 94, 32]) [32, c, 32] = true := by decide +kernel
 obtain ⟨k1, k2, k4⟩ := key c hc
 exact tokens_step (next_sign hK h k1 k2 (by rw [ho, Bool.and_false]) k4 h2) (show (9 : Int) ≠ 10 by decide) (by omega)
theorem wrd_step {r : Bs} {op : List Bool} {i n k : Nat} {acc : List Tk} (hK : 1 ≤ K) (c : UInt8) (hc : c = 97 ∨ c = 102) (h : L.drop i = c :: r) (h2 : ∀ d, r.head? = some d → (letterB d || digitB d) = false) (hn : n < 8192) :
 tokensK L K (k + 1) n i op acc = tokensK L K k (n + 1) (i + 1) op (acc ++ [tk1 c i]) := by
 have key : letterB c = true ∧ (blankB c || c == 47 || reservedB [c]) = false := by rcases hc with rfl | rfl <;> decide +kernel
 exact tokens_step (next_word hK h key.1 h2 key.2) (show (1 : Int) ≠ 10 by decide) (by omega)
theorem one_step {r : Bs} {op : List Bool} {i n k : Nat} {acc : List Tk} (hK : 1 ≤ K) (h : L.drop i = 49 :: r) (h2 : ∀ d, r.head? = some d → (letterB d || digitB d) = false) (hn : n < 8192) :
 tokensK L K (k + 1) n i op acc = tokensK L K k (n + 1) (i + 1) op (acc ++ [tk3 49 i]) :=
 tokens_step (next_digit hK h (by decide) h2 (by decide)) (show (3 : Int) ≠ 10 by decide) (by omega)
theorem sp_step {c : UInt8} {r : Bs} {op : List Bool} {i n k : Nat} {acc : List Tk} (hK : 2 ≤ K) (h : L.drop i = 32 :: c :: r) (h1 : blankB c = false) (h2 : (c == 47) = false) :
 tokensK L K (k + 1) n i op acc = tokensK L K (k + 1) n (i + 1) op acc := by
 have hn : nextK L K i op = nextK L K (i + 1) op := by
  obtain ⟨K, rfl⟩ : ∃ K', K = K' + 1 := ⟨K - 1, by omega⟩
  have h3 := (drop_get h).2.2
  unfold nextK
  rw [blanks_sp h, blanks_at (by omega) h3 h1 h2, blanks_at (by omega) h3 h1 h2]
 rw [tokensK, tokensK, hn]
theorem opn_head (k : Nat) : ∀ (n : Nat) (op : List Bool), op.head?.getD false = false → (opn k n op).head?.getD false = false
 | 0, op, h => h
 | n + 1, op, h => by
  rcases k with _ | _ | _ | k
  · exact opn_head 0 n op h
  · exact opn_head 1 n op h
  · exact opn_head 2 n op h
  · exact opn_head (k + 3) n (false :: op) rfl
theorem open_head {k n : Nat} {R : Bs} {d : UInt8} (h : (rep (openB k) n ++ 49 :: R).head? = some d) : d = 49 ∨ (k = 0 ∧ d = 40) ∨ (k = 1 ∧ d = 91) ∨ (k = 2 ∧ d = 102) ∨ (3 ≤ k ∧ d = 123) := by
 rcases n with _ | n
 · left; have h : some (49 : UInt8) = some d := h; exact (Option.some.inj h).symm
 · rcases k with _ | _ | _ | k
   · have h : some (40 : UInt8) = some d := h
     simp [(Option.some.inj h).symm]
   · have h : some (91 : UInt8) = some d := h
     simp [(Option.some.inj h).symm]
   · have h : some (102 : UInt8) = some d := h
     simp [(Option.some.inj h).symm]
   · have h : some (123 : UInt8) = some d := h
     simp [(Option.some.inj h).symm]
theorem lex_open (hK : 2 ≤ K) {k : Nat} {R : Bs} : ∀ (n i c f : Nat) (op : List Bool) (acc : List Tk), L.drop i = rep (openB k) n ++ 49 :: R → op.head?.getD false = false → c + 3 * n < 8000 → 3 * n < f →
 ∃ f', f ≤ f' + 3 * n ∧ tokensK L K f c i op acc = tokensK L K f' (c + (oT k n i).length) (i + n * (openB k).length) (opn k n op) (acc ++ oT k n i)
 | 0, i, c, f, op, acc, h, ho, hc, hf => ⟨f, by omega, by simp [oT, opn]⟩
 | n + 1, i, c, f, op, acc, h, ho, hc, hf => by
  obtain ⟨f, rfl⟩ : ∃ f', f = f' + 3 := ⟨f - 3, by omega⟩
  have hd : ∀ d, (rep (openB k) n ++ 49 :: R).head? = some d → _ := fun d hd => open_head hd
  rcases k with _ | _ | _ | k
  · have h : L.drop i = 40 :: (rep (openB 0) n ++ 49 :: R) := h
    obtain ⟨_, _, h2⟩ := drop_get h
    obtain ⟨f', h3, h4⟩ := lex_open hK (k := 0) n (i + 1) (c + 1) (f + 2) op (acc ++ [tk9 40 i]) h2 ho (by omega) (by omega)
    refine ⟨f', by omega, ?_⟩
    rw [sgn_step (by omega) h (by decide) ho (fun d hd => by rcases open_head hd with rfl | ⟨_, rfl⟩ | ⟨h, _⟩ | ⟨h, _⟩ | ⟨h, _⟩ <;> first | decide +kernel | omega) (by omega)]
    rw [show opAfter 40 op = op from rfl, h4]
    rw [show oT 0 (n + 1) i = tk9 40 i :: oT 0 n (i + 1) from rfl, show (openB 0).length = 1 from rfl, show opn 0 (n + 1) op = opn 0 n op from rfl]
    simp only [List.append_assoc, List.cons_append, List.nil_append, List.length_cons]
    congr 1 <;> omega
  · have h : L.drop i = 91 :: (rep (openB 1) n ++ 49 :: R) := h
    obtain ⟨_, _, h2⟩ := drop_get h
    obtain ⟨f', h3, h4⟩ := lex_open hK (k := 1) n (i + 1) (c + 1) (f + 2) op (acc ++ [tk9 91 i]) h2 ho (by omega) (by omega)
    refine ⟨f', by omega, ?_⟩
    rw [sgn_step (by omega) h (by decide) ho (fun d hd => by rcases open_head hd with rfl | ⟨h, _⟩ | ⟨_, rfl⟩ | ⟨h, _⟩ | ⟨h, _⟩ <;> first | decide +kernel | omega) (by omega)]
    rw [show opAfter 91 op = op from rfl, h4]
    rw [show oT 1 (n + 1) i = tk9 91 i :: oT 1 n (i + 1) from rfl, show (openB 1).length = 1 from rfl, show opn 1 (n + 1) op = opn 1 n op from rfl]
    simp only [List.append_assoc, List.cons_append, List.nil_append, List.length_cons]
    congr 1 <;> omega
  · have h : L.drop i = 102 :: 40 :: (rep (openB 2) n ++ 49 :: R) := h
    obtain ⟨_, _, h1⟩ := drop_get h
    obtain ⟨_, _, h2⟩ := drop_get h1
    obtain ⟨f', h3, h4⟩ := lex_open hK (k := 2) n (i + 1 + 1) (c + 1 + 1) (f + 1) op (acc ++ [tk1 102 i] ++ [tk9 40 (i + 1)]) h2 ho (by omega) (by omega)
    refine ⟨f', by omega, ?_⟩
    rw [wrd_step (by omega) 102 (.inr rfl) h (fun d hd => by cases hd; decide +kernel) (by omega),
     sgn_step (by omega) h1 (by decide) ho (fun d hd => by rcases open_head hd with rfl | ⟨h, _⟩ | ⟨h, _⟩ | ⟨_, rfl⟩ | ⟨h, _⟩ <;> first | decide +kernel | omega) (by omega)]
    rw [show opAfter 40 op = op from rfl, h4]
    rw [show oT 2 (n + 1) i = tk1 102 i :: tk9 40 (i + 1) :: oT 2 n (i + 1 + 1) from rfl, show (openB 2).length = 2 from rfl, show opn 2 (n + 1) op = opn 2 n op from rfl]
    simp only [List.append_assoc, List.cons_append, List.nil_append, List.length_cons]
    congr 1 <;> omega
  · have h : L.drop i = 123 :: 97 :: 58 :: 32 :: (rep (openB (k + 3)) n ++ 49 :: R) := h
    obtain ⟨_, _, h1⟩ := drop_get h
    obtain ⟨_, _, h2⟩ := drop_get h1
    obtain ⟨_, _, h3⟩ := drop_get h2
    obtain ⟨_, _, h5⟩ := drop_get h3
    obtain ⟨f', h6, h7⟩ := lex_open hK (k := k + 3) n (i + 1 + 1 + 1 + 1) (c + 1 + 1 + 1) f (false :: op) (acc ++ [tk9 123 i] ++ [tk1 97 (i + 1)] ++ [tk9 58 (i + 1 + 1)]) h5 rfl (by omega) (by omega)
    refine ⟨f', by omega, ?_⟩
    rw [sgn_step (by omega) h (by decide) ho (fun d hd => by cases hd; decide +kernel) (by omega)]
    rw [show opAfter 123 op = false :: op from rfl]
    rw [wrd_step (by omega) 97 (.inl rfl) h1 (fun d hd => by cases hd; decide +kernel) (by omega),
     sgn_step (by omega) h2 (by decide) rfl (fun d hd => by cases hd; decide +kernel) (by omega)]
    rw [show opAfter 58 (false :: op) = false :: op from rfl]
    obtain ⟨f, rfl⟩ : ∃ f'', f = f'' + 1 := ⟨f - 1, by omega⟩
    obtain ⟨e, r, he⟩ : ∃ e r, rep (openB (k + 3)) n ++ 49 :: R = e :: r := by
     rcases n with _ | n
     · exact ⟨_, _, rfl⟩
     · exact ⟨_, _, rfl⟩
    have he2 := open_head (k := k + 3) (n := n) (R := R) (d := e) (by rw [he]; rfl)
    have he3 : blankB e = false ∧ (e == 47) = false := by rcases he2 with rfl | ⟨h, _⟩ | ⟨h, _⟩ | ⟨h, _⟩ | ⟨_, rfl⟩ <;> first | decide | omega
    rw [he] at h3
    rw [sp_step hK h3 he3.1 he3.2, h7]
    rw [show oT (k + 3) (n + 1) i = tk9 123 i :: tk1 97 (i + 1) :: tk9 58 (i + 1 + 1) :: oT (k + 3) n (i + 1 + 1 + 1 + 1) from rfl, show (openB (k + 3)).length = 4 from rfl, show opn (k + 3) (n + 1) op = opn (k + 3) n (false :: op) from rfl]
    simp only [List.append_assoc, List.cons_append, List.nil_append, List.length_cons]
    congr 1 <;> omega
def opOff (k : Nat) (op : List Bool) : List Bool := opAfter (shutC k) op
theorem shut_ok (k : Nat) : shutC k ∈ ([40, 41, 91, 93, 123, 125, 58] : List UInt8) ∧ noSign (shutC k) (shutC k) = true ∧ (letterB (shutC k) || digitB (shutC k)) = false := by
 rcases k with _ | _ | _ | k
 · decide +kernel
 · decide +kernel
 · decide +kernel
 · show (125 : UInt8) ∈ _ ∧ noSign 125 125 = true ∧ (letterB 125 || digitB 125) = false
   decide +kernel
theorem rep_head {c d : UInt8} : ∀ {n : Nat}, (rep [c] n).head? = some d → d = c
 | 0, h => by cases h
 | n + 1, h => by have h : some c = some d := h; exact (Option.some.inj h).symm
/-- all that is open is no template -/
def Plain (op : List Bool) : Prop := ∀ b ∈ op, b = false
theorem Plain.head {op : List Bool} (h : Plain op) : op.head?.getD false = false := by
 cases op with
 | nil => rfl
 | cons b op => exact h b (by simp)
theorem Plain.after {op : List Bool} (h : Plain op) (c : UInt8) : Plain (opAfter c op) := by
 unfold opAfter
 cases (c == 123) with
 | true => exact fun b hb => by rcases List.mem_cons.1 hb with rfl | hb; exact rfl; exact h b hb
 | false =>
  cases (c == 125) with
  | true => exact fun b hb => h b (List.mem_of_mem_tail hb)
  | false => exact h
theorem Plain.opn (k : Nat) : ∀ (n : Nat) {op : List Bool}, Plain op → Plain (opn k n op)
 | 0, op, h => h
 | n + 1, op, h => by
  rcases k with _ | _ | _ | k
  · exact Plain.opn 0 n h
  · exact Plain.opn 1 n h
  · exact Plain.opn 2 n h
  · exact Plain.opn (k + 3) n (fun b hb => by rcases List.mem_cons.1 hb with rfl | hb; exact rfl; exact h b hb)
theorem lex_shut (hK : 1 ≤ K) {k : Nat} : ∀ (n i c f : Nat) (op : List Bool) (acc : List Tk), L.drop i = rep [shutC k] n → i ≤ L.length → Plain op → c + n < 8000 → n < f →
 tokensK L K f c i op acc = some (.inl (acc ++ sT k n i ++ [⟨10, [], ((i + n : Nat) : Int), ((i + n : Nat) : Int)⟩]))
 | 0, i, c, f, op, acc, h, hi, ho, hc, hf => by
  obtain ⟨f, rfl⟩ : ∃ f', f = f' + 1 := ⟨f - 1, by omega⟩
  rw [tokens_stop (next_end hK h hi).1 rfl]
  simp [sT]
 | n + 1, i, c, f, op, acc, h, hi, ho, hc, hf => by
  obtain ⟨f, rfl⟩ : ∃ f', f = f' + 1 := ⟨f - 1, by omega⟩
  have h : L.drop i = shutC k :: rep [shutC k] n := h
  obtain ⟨_, h1, h2⟩ := drop_get h
  obtain ⟨k1, k2, k3⟩ := shut_ok k
  rw [sgn_step hK h k1 ho.head (fun d hd => by rw [rep_head hd]; exact k2) (by omega), lex_shut hK n (i + 1) (c + 1) f _ _ h2 (by omega) (ho.after _) (by omega) (by omega)]
  simp only [sT, List.append_assoc, List.cons_append, List.nil_append]
  rw [show i + 1 + n = i + (n + 1) by omega]
end
def boundT (k n : Nat) : List Tk := oT k n 0 ++ (tk3 49 (n * (openB k).length) :: (sT k n (n * (openB k).length + 1) ++ [⟨10, [], ((n * (openB k).length + 1 + n : Nat) : Int), ((n * (openB k).length + 1 + n : Nat) : Int)⟩]))
theorem open_len (k : Nat) : 1 ≤ (openB k).length ∧ (openB k).length ≤ 4 := by
 rcases k with _ | _ | _ | k <;> simp [openB]
theorem oT_len (k : Nat) : ∀ n i, (oT k n i).length ≤ 3 * n
 | 0, i => by simp [oT]
 | n + 1, i => by
  have := oT_len k n (i + (openB k).length)
  rw [oT, List.length_append]
  have : (otk k i).length ≤ 3 := by rcases k with _ | _ | _ | k <;> simp [otk]
  omega
theorem bound_tokens {k n : Nat} (hn : n ≤ 200) : tokensB (boundB k n) KF = some (.inl (boundT k n)) := by
 have hl : (boundB k n).length = n * (openB k).length + 1 + n := by
  unfold boundB
  rw [List.length_append, List.length_cons, rep_len, rep_len]; simp; omega
 have h4 := (open_len k).2
 have hb : n * (openB k).length ≤ 200 * 4 := Nat.mul_le_mul hn h4
 unfold tokensB
 rw [show decide ((boundB k n).length > 65536) = false by rw [decide_eq_false_iff_not]; omega]
 simp only [cond_false]
 have hKF : KF = 20000 := rfl
 obtain ⟨f', h1, h2⟩ := lex_open (L := boundB k n) (K := KF) (by omega) (k := k) (R := rep [shutC k] n) n 0 0 KF [] [] rfl rfl (by omega) (by omega)
 rw [h2]
 have hd : (boundB k n).drop (0 + n * (openB k).length) = 49 :: rep [shutC k] n := by
  unfold boundB
  rw [Nat.zero_add, ← rep_len, List.drop_left]
 obtain ⟨_, h3, h5⟩ := drop_get hd
 have ho := oT_len k n 0
 obtain ⟨f', rfl⟩ : ∃ f'', f' = f'' + 1 := ⟨f' - 1, by omega⟩
 rw [one_step (by omega) hd (fun d hd => by rw [rep_head hd]; exact (shut_ok k).2.2) (by omega), lex_shut (by omega) n _ _ _ _ _ h5 (by omega) (Plain.opn k n (fun b hb => by cases hb)) (by omega) (by omega)]
 unfold boundT
 simp only [List.append_assoc, List.cons_append, List.nil_append, Nat.zero_add]
/-- depth -/
theorem depth_keep (m : Int) : ∀ (ts : List Tk) (j : Nat) (c d f : Int), 0 ≤ f → (depthL m ts j c d f).2 = f
 | [], j, c, d, f, h => rfl
 | t :: l, j, c, d, f, h => by
  rw [depthL]
  rw [show decide (f < 0) = false by simpa using h, Bool.and_false]
  exact depth_keep m l _ _ _ _ h
theorem depth_step {t : Tk} {l : List Tk} {j : Nat} {c d : Int} (h0 : 0 ≤ c + turnT t) (h1 : c + turnT t ≤ 64) : ∃ d', depthL 64 (t :: l) j c d (-1) = depthL 64 l (j + 1) (c + turnT t) d' (-1) := by
 refine ⟨max d (c + turnT t), ?_⟩
 rw [depthL]
 rw [show max 0 (c + turnT t) = c + turnT t by omega, show decide (c + turnT t > 64) = false by simp; omega]
 rfl
theorem depth_hit {t : Tk} {l : List Tk} {j : Nat} {c d : Int} (h1 : 64 < c + turnT t) : (depthL 64 (t :: l) j c d (-1)).2 = j := by
 rw [depthL]
 rw [show max 0 (c + turnT t) = c + turnT t by omega, show decide (c + turnT t > 64) = true by simpa using h1]
 exact depth_keep _ l _ _ _ (j : Int) (by omega)
def wid4 : Nat → Nat
 | 0 => 1
 | 1 => 1
 | 2 => 2
 | _ => 3
theorem depth_open (k : Nat) : ∀ (n i j : Nat) (c d : Int) (l : List Tk), 0 ≤ c → c + n ≤ 64 → ∃ d', depthL 64 (oT k n i ++ l) j c d (-1) = depthL 64 l (j + n * wid4 k) (c + n) d' (-1)
 | 0, i, j, c, d, l, h, h1 => ⟨d, by simp [oT]⟩
 | n + 1, i, j, c, d, l, h, h1 => by
  rcases k with _ | _ | _ | k
  · obtain ⟨d1, e1⟩ := depth_step (t := tk9 40 i) (l := oT 0 n (i + (openB 0).length) ++ l) (j := j) (c := c) (d := d) (show 0 ≤ c + 1 by omega) (show c + 1 ≤ 64 by omega)
    obtain ⟨d2, e2⟩ := depth_open 0 n (i + (openB 0).length) (j + 1) (c + 1) d1 l (by omega) (by omega)
    refine ⟨d2, e1.trans ((show _ = _ from e2).trans ?_)⟩
    congr 1 <;> (try simp only [wid4]) <;> omega
  · obtain ⟨d1, e1⟩ := depth_step (t := tk9 91 i) (l := oT 1 n (i + (openB 1).length) ++ l) (j := j) (c := c) (d := d) (show 0 ≤ c + 1 by omega) (show c + 1 ≤ 64 by omega)
    obtain ⟨d2, e2⟩ := depth_open 1 n (i + (openB 1).length) (j + 1) (c + 1) d1 l (by omega) (by omega)
    refine ⟨d2, e1.trans ((show _ = _ from e2).trans ?_)⟩
    congr 1 <;> (try simp only [wid4]) <;> omega
  · obtain ⟨d0, e0⟩ := depth_step (t := tk1 102 i) (l := tk9 40 (i + 1) :: (oT 2 n (i + (openB 2).length) ++ l)) (j := j) (c := c) (d := d) (show 0 ≤ c + 0 by omega) (show c + 0 ≤ 64 by omega)
    obtain ⟨d1, e1⟩ := depth_step (t := tk9 40 (i + 1)) (l := oT 2 n (i + (openB 2).length) ++ l) (j := j + 1) (c := c + 0) (d := d0) (show 0 ≤ c + 0 + 1 by omega) (show c + 0 + 1 ≤ 64 by omega)
    obtain ⟨d2, e2⟩ := depth_open 2 n (i + (openB 2).length) (j + 1 + 1) (c + 0 + 1) d1 l (by omega) (by omega)
    refine ⟨d2, e0.trans (e1.trans ((show _ = _ from e2).trans ?_))⟩
    congr 1 <;> (try simp only [wid4]) <;> omega
  · obtain ⟨d0, e0⟩ := depth_step (t := tk9 123 i) (l := tk1 97 (i + 1) :: tk9 58 (i + 1 + 1) :: (oT (k + 3) n (i + (openB (k + 3)).length) ++ l)) (j := j) (c := c) (d := d) (show 0 ≤ c + 1 by omega) (show c + 1 ≤ 64 by omega)
    obtain ⟨d1, e1⟩ := depth_step (t := tk1 97 (i + 1)) (l := tk9 58 (i + 1 + 1) :: (oT (k + 3) n (i + (openB (k + 3)).length) ++ l)) (j := j + 1) (c := c + 1) (d := d0) (show 0 ≤ c + 1 + 0 by omega) (show c + 1 + 0 ≤ 64 by omega)
    obtain ⟨d3, e3⟩ := depth_step (t := tk9 58 (i + 1 + 1)) (l := oT (k + 3) n (i + (openB (k + 3)).length) ++ l) (j := j + 1 + 1) (c := c + 1 + 0) (d := d1) (show 0 ≤ c + 1 + 0 + 0 by omega) (show c + 1 + 0 + 0 ≤ 64 by omega)
    obtain ⟨d2, e2⟩ := depth_open (k + 3) n (i + (openB (k + 3)).length) (j + 1 + 1 + 1) (c + 1 + 0 + 0) d3 l (by omega) (by omega)
    refine ⟨d2, e0.trans (e1.trans (e3.trans ((show _ = _ from e2).trans ?_)))⟩
    congr 1 <;> (try simp only [wid4]) <;> omega
theorem turn_shut (k i : Nat) : turnT (tk9 (shutC k) i) = -1 := by
 rcases k with _ | _ | _ | k <;> rfl
theorem depth_shut (k : Nat) : ∀ (n i j : Nat) (c d : Int) (l : List Tk), c ≤ 64 → (n : Int) ≤ c → ∃ d', depthL 64 (sT k n i ++ l) j c d (-1) = depthL 64 l (j + n) (c - n) d' (-1)
 | 0, i, j, c, d, l, h, h1 => ⟨d, by simp [sT]⟩
 | n + 1, i, j, c, d, l, h, h1 => by
  obtain ⟨d1, e1⟩ := depth_step (t := tk9 (shutC k) i) (l := sT k n (i + 1) ++ l) (j := j) (c := c) (d := d) (by rw [turn_shut]; omega) (by rw [turn_shut]; omega)
  rw [turn_shut] at e1
  obtain ⟨d2, e2⟩ := depth_shut k n (i + 1) (j + 1) (c + -1) d1 l (by omega) (by omega)
  refine ⟨d2, e1.trans ((show _ = _ from e2).trans ?_)⟩
  congr 1 <;> omega
theorem bound_flat {k n : Nat} (hn : n ≤ 64) : (depthL 64 (boundT k n) 0 0 0 (-1)).2 = -1 := by
 unfold boundT
 obtain ⟨d1, e1⟩ := depth_open k n 0 0 0 0 (tk3 49 (n * (openB k).length) :: (sT k n (n * (openB k).length + 1) ++ [⟨10, [], ((n * (openB k).length + 1 + n : Nat) : Int), ((n * (openB k).length + 1 + n : Nat) : Int)⟩])) (by omega) (by omega)
 rw [e1]
 obtain ⟨d2, e2⟩ := depth_step (t := tk3 49 (n * (openB k).length)) (l := sT k n (n * (openB k).length + 1) ++ [⟨10, [], ((n * (openB k).length + 1 + n : Nat) : Int), ((n * (openB k).length + 1 + n : Nat) : Int)⟩]) (j := 0 + n * wid4 k) (c := 0 + n) (d := d1) (show 0 ≤ (0 : Int) + n + 0 by omega) (show (0 : Int) + n + 0 ≤ 64 by omega)
 rw [e2]
 obtain ⟨d3, e3⟩ := depth_shut k n (n * (openB k).length + 1) (0 + n * wid4 k + 1) (0 + n + turnT (tk3 49 (n * (openB k).length))) d2 [⟨10, [], ((n * (openB k).length + 1 + n : Nat) : Int), ((n * (openB k).length + 1 + n : Nat) : Int)⟩] (show (0 : Int) + n + 0 ≤ 64 by omega) (show (n : Int) ≤ 0 + n + 0 by omega)
 rw [e3]
 obtain ⟨d4, e4⟩ := depth_step (t := ⟨10, [], ((n * (openB k).length + 1 + n : Nat) : Int), ((n * (openB k).length + 1 + n : Nat) : Int)⟩) (l := []) (j := 0 + n * wid4 k + 1 + n) (c := 0 + n + turnT (tk3 49 (n * (openB k).length)) - n) (d := d3) (show (0 : Int) ≤ 0 + n + 0 - n + 0 by omega) (show (0 : Int) + n + 0 - n + 0 ≤ 64 by omega)
 rw [e4]; rfl
theorem oT_app (k : Nat) : ∀ (m n i : Nat), oT k (m + n) i = oT k m i ++ oT k n (i + m * (openB k).length)
 | 0, n, i => by simp [oT]
 | m + 1, n, i => by
  rw [show m + 1 + n = (m + n) + 1 by omega, oT, oT_app k m n, oT, List.append_assoc]
  congr 3
  rw [Nat.succ_mul]; omega
theorem oT_lenw (k : Nat) : ∀ n i, (oT k n i).length = n * wid4 k
 | 0, i => by simp [oT]
 | n + 1, i => by
  rw [oT, List.length_append, oT_lenw k n, Nat.succ_mul, Nat.add_comm]
  rcases k with _ | _ | _ | k <;> rfl
def plusK (k : Nat) : Nat := if k = 2 then 1 else 0
theorem bound_deep {k n : Nat} (hn : 64 < n) : (depthL 64 (boundT k n) 0 0 0 (-1)).2 = ((64 * wid4 k + plusK k : Nat) : Int) ∧ ((boundT k n)[64 * wid4 k + plusK k]?.getD noT).pos = ((64 * (openB k).length + plusK k : Nat) : Int) := by
 obtain ⟨m, rfl⟩ : ∃ m, n = 64 + (m + 1) := ⟨n - 65, by omega⟩
 unfold boundT
 rw [oT_app, List.append_assoc, Nat.zero_add]
 generalize (tk3 49 _ :: _ : List Tk) = R
 rw [show oT k (m + 1) (64 * (openB k).length) = otk k (64 * (openB k).length) ++ oT k m (64 * (openB k).length + (openB k).length) from rfl, List.append_assoc]
 generalize oT k m (64 * (openB k).length + (openB k).length) ++ R = R
 obtain ⟨d1, e1⟩ := depth_open k 64 0 0 0 0 (otk k (64 * (openB k).length) ++ R) (by omega) (by omega)
 have hlw := oT_lenw k 64 0
 constructor
 · rw [e1]
   rcases k with _ | _ | _ | k
   · exact depth_hit (show (64 : Int) < 0 + 64 + 1 by omega)
   · exact depth_hit (show (64 : Int) < 0 + 64 + 1 by omega)
   · obtain ⟨d2, e2⟩ := depth_step (t := tk1 102 (64 * (openB 2).length)) (l := tk9 40 (64 * (openB 2).length + 1) :: R) (j := 0 + 64 * wid4 2) (c := 0 + (64 : Nat)) (d := d1) (by decide) (by decide)
     have e2 : depthL 64 (otk 2 (64 * (openB 2).length) ++ R) (0 + 64 * wid4 2) (0 + (64 : Nat)) d1 (-1) = _ := e2
     rw [e2]
     exact depth_hit (by decide)
   · exact depth_hit (show (64 : Int) < 0 + 64 + 1 by omega)
 · rw [List.getElem?_append_right (by rw [hlw]; omega), hlw, Nat.add_sub_cancel_left]
   rcases k with _ | _ | _ | k
   · rfl
   · rfl
   · rfl
   · show ((otk (k + 3) _ ++ R)[if k + 3 = 2 then 1 else 0]?.getD noT).pos = ((64 * _ + (if k + 3 = 2 then 1 else 0) : Nat) : Int)
     rw [if_neg (by omega)]; rfl
end Go.Proofs

namespace Go.Proofs
open Go.Px
/-- n brackets of a kind about a number -/
inductive Nest (k : Nat) : Nat → List Tk → Prop
 | num (i : Nat) : Nest k 0 [tk3 49 i]
 | wrap {n i j : Nat} {ts : List Tk} : Nest k n ts → Nest k (n + 1) (otk k i ++ ts ++ [tk9 (shutC k) j])
theorem sT_snoc (k : Nat) : ∀ (n i : Nat), sT k (n + 1) i = sT k n i ++ [tk9 (shutC k) (i + n)]
 | 0, i => rfl
 | n + 1, i => by
  rw [show sT k (n + 1 + 1) i = tk9 (shutC k) i :: sT k (n + 1) (i + 1) from rfl, sT_snoc k n (i + 1), show i + 1 + n = i + (n + 1) by omega]; rfl
theorem nest_bound (k : Nat) : ∀ (n i p q : Nat), Nest k n (oT k n i ++ tk3 49 p :: sT k n q)
 | 0, i, p, q => .num p
 | n + 1, i, p, q => by
  have := Nest.wrap (i := i) (j := q + n) (nest_bound k n (i + (openB k).length) p q)
  rw [sT_snoc, show oT k (n + 1) i = otk k i ++ oT k n (i + (openB k).length) from rfl]
  simpa only [List.append_assoc, List.cons_append] using this
theorem nest_head {k n : Nat} {ts : List Tk} (h : Nest k n ts) : ∃ t l, ts = t :: l ∧ saysB t [93] = false ∧ saysB t [41] = false ∧ t.kind ≠ 10 := by
 cases h with
 | num i => exact ⟨_, _, rfl, rfl, rfl, by show (3 : Int) ≠ 10; decide⟩
 | @wrap n i j ts h =>
  rcases k with _ | _ | _ | k
  · exact ⟨_, _, rfl, rfl, rfl, by show (9 : Int) ≠ 10; decide⟩
  · exact ⟨_, _, rfl, rfl, rfl, by show (9 : Int) ≠ 10; decide⟩
  · exact ⟨_, _, rfl, rfl, rfl, by show (1 : Int) ≠ 10; decide⟩
  · exact ⟨_, _, rfl, rfl, rfl, by show (9 : Int) ≠ 10; decide⟩
theorem closeAt_step {c : Int} {t : Tk} {l : List Tk} (h : c + turnT t ≠ 0) : closeAt c (t :: l) = closeAt (c + turnT t) l := by
 rw [closeAt, show (c + turnT t == 0) = false by simpa using h]; rfl
theorem nest_close {n : Nat} {ts : List Tk} (h : Nest 0 n ts) : ∀ (c : Int) (R : List Tk), 1 ≤ c → closeAt c (ts ++ R) = closeAt c R := by
 induction h with
 | num i =>
  intro c R hc
  show closeAt c (tk3 49 i :: R) = _
  rw [closeAt_step (show c + 0 ≠ 0 by omega)]
  show closeAt (c + 0) R = _
  rw [Int.add_zero]
 | @wrap n i j ts h ih =>
  intro c R hc
  show closeAt c (tk9 40 i :: (ts ++ [tk9 41 j] ++ R)) = _
  rw [closeAt_step (show c + 1 ≠ 0 by omega), List.append_assoc]
  show closeAt (c + 1) _ = _
  rw [ih _ _ (show 1 ≤ c + 1 by omega)]
  show closeAt (c + 1) (tk9 41 j :: R) = _
  rw [closeAt_step (show c + 1 + -1 ≠ 0 by omega)]
  congr 1
  show c + 1 + -1 = c
  omega
section
variable {K : Nat} {t u : Tk} {l r : List Tk} {s : Bs} {f : Tk}
theorem is_no (h : saysB t s = false) : isM s (t :: l) = some (.ok (false, t :: l)) := by show some (Except.ok (saysB t s, t :: l)) = _; rw [h]
theorem is_yes (h : saysB t s = true) : isM s (t :: l) = some (.ok (true, t :: l)) := by show some (Except.ok (saysB t s, t :: l)) = _; rw [h]
theorem take_no (h : saysB t s = false) : takeM s (t :: l) = some (.ok (false, t :: l)) := by
 unfold takeM; rw [M_bind (is_no h)]; rfl
theorem take_yes (h : saysB t s = true) : takeM s (t :: u :: l) = some (.ok (true, u :: l)) := by
 unfold takeM; rw [M_bind (is_yes h)]; rfl
theorem must_yes (h : saysB t s = true) : mustM s (t :: u :: l) = some (.ok ((), u :: l)) := by
 unfold mustM; rw [M_bind (take_yes h)]; rfl
theorem now_ok : nowM (t :: l) = some (.ok (t, t :: l)) := rfl
theorem parts_stop {g : NT → M PT} {a : Int} {k : Nat} {x : PT} (hf : Stop f) : partsM g a (k + 1) x (f :: r) = some (.ok (x, f :: r)) := by
 unfold partsM
 rw [M_bind (take_stop hf (by decide))]
 show (takeM [91] >>= _) _ = _
 rw [M_bind (take_stop hf (by decide))]
 show (isM [40] >>= _) _ = _
 rw [M_bind (is_stop hf (by decide))]
 show ((isM [60] >>= _) >>= _) _ = _
 rw [M.assoc, M_bind (is_stop hf (by decide))]
 show ((Pure.pure false : M Bool) >>= _) _ = _
 rw [M.pureb]
 show (takeM [33] >>= _) _ = _
 rw [M_bind (take_stop hf (by decide))]
 rfl
theorem more_stop {m : M PT} {k : Nat} {acc : List PT} (h : saysB f [44] = false) : moreM (k + 1) m acc (f :: r) = some (.ok (acc, f :: r)) := by
 unfold moreM
 rw [M_bind (take_no h)]; rfl
theorem list_one {m : M PT} {k : Nat} {x : PT} (h : m (t :: l) = some (.ok (x, f :: r))) (hf : saysB f [44] = false) : listM (k + 1) m (t :: l) = some (.ok (.node 2 [] 0 t.pos [x], f :: r)) := by
 unfold listM
 rw [M_bind now_ok, M_bind h, M_bind (more_stop hf)]; rfl
theorem stop_shut (k j : Nat) : Stop (tk9 (shutC k) j) := by
 right
 refine ⟨rfl, ?_⟩
 rcases k with _ | _ | _ | k
 · exact .inl rfl
 · exact .inr (.inl rfl)
 · exact .inl rfl
 · exact .inr (.inr (.inl rfl))
theorem pre_no (h : t.kind ≠ 9 ∧ t.kind ≠ 2 ∨ (t.kind = 9 ∧ (t.text = [40] ∨ t.text = [91] ∨ t.text = [123]))) : ∀ s ∈ [[33], [45], [126], [116, 121, 112, 101, 111, 102]], saysB t s = false := by
 obtain ⟨kk, tx, p, e⟩ := t
 rcases h with ⟨h1, h2⟩ | ⟨h1, h2⟩
 · intro s _
   have h1 : kk ≠ 9 := h1
   have h2 : kk ≠ 2 := h2
   unfold saysB
   simp [h1, h2]
 · have h1 : kk = 9 := h1
   subst h1
   have h2 : tx = [40] ∨ tx = [91] ∨ tx = [123] := h2
   rcases h2 with rfl | rfl | rfl
   · show ∀ s ∈ [[33], [45], [126], [116, 121, 112, 101, 111, 102]], (true && ([40] : Bs) == s) = false
     decide
   · show ∀ s ∈ [[33], [45], [126], [116, 121, 112, 101, 111, 102]], (true && ([91] : Bs) == s) = false
     decide
   · show ∀ s ∈ [[33], [45], [126], [116, 121, 112, 101, 111, 102]], (true && ([123] : Bs) == s) = false
     decide
/-- a primary that is all of it -/
theorem expr_prim {n : Nat} {x : PT} (hf : Stop f) (hp : t.kind ≠ 9 ∧ t.kind ≠ 2 ∨ (t.kind = 9 ∧ (t.text = [40] ∨ t.text = [91] ∨ t.text = [123]))) (ha : arrowM (t :: l) = some (.ok (false, t :: l))) (h : gr (K + 1) n .primary (t :: l) = some (.ok (x, f :: r))) :
 gr (K + 1) (n + 15) .expr (t :: l) = some (.ok (x, f :: r)) := by
 refine expr_stop (n := n + 1) hf (by omega) (pre_no hp) ha ?_
 show postfM (K + 1) (gr (K + 1) n) (t :: l) = _
 unfold postfM
 rw [M_bind now_ok, M_bind h]
 exact parts_stop hf
theorem nest_expr {k : Nat} {n : Nat} {ts : List Tk} (h : Nest k n ts) : ∀ (N : Nat) (f : Tk) (r : List Tk), Stop f → ∃ x, gr (K + 2) (N + 20 * n + 16) .expr (ts ++ f :: r) = some (.ok (x, f :: r)) := by
 induction h with
 | num i =>
  intro N f r hf
  exact ⟨_, expr_prim (n := N + 1) (x := .node 10 [] (numOf [49]) (i : Int) []) hf (.inl ⟨by show (3 : Int) ≠ 9; decide, by show (3 : Int) ≠ 2; decide⟩) rfl rfl⟩
 | @wrap n i j ts h ih =>
  intro N f r hf
  obtain ⟨t, l, rfl, ht1, ht2, ht3⟩ := nest_head h
  have e2 : otk k i ++ (t :: l) ++ [tk9 (shutC k) j] ++ f :: r = otk k i ++ (t :: (l ++ tk9 (shutC k) j :: f :: r)) := by simp
  rw [e2]
  rcases k with _ | _ | _ | k
  · obtain ⟨x, hx⟩ := ih (N + 4) (tk9 41 j) (f :: r) (stop_shut 0 j)
    rw [show N + 20 * (n + 1) + 16 = ((N + 4) + 20 * n + 16) + 1 + 15 by omega]
    generalize (N + 4) + 20 * n + 16 = m0 at hx ⊢
    refine ⟨x, expr_prim (K := K + 1) (n := m0 + 1) hf (.inr ⟨rfl, .inl rfl⟩) ?_ ?_⟩
    · have hc : closeAt 0 (tk9 40 i :: t :: (l ++ tk9 41 j :: f :: r)) = some (f :: r) := by
       rw [closeAt_step (show (0 : Int) + 1 ≠ 0 by decide)]
       show closeAt 1 (t :: l ++ tk9 41 j :: f :: r) = _
       rw [nest_close h 1 _ (by omega), closeAt]
       rfl
      have hcl : closedM (tk9 40 i :: t :: (l ++ tk9 41 j :: f :: r)) = some (.ok (f, tk9 40 i :: t :: (l ++ tk9 41 j :: f :: r))) := by
       show some (Except.ok (_, _)) = _
       rw [hc]
      show arrowM (tk9 40 i :: t :: (l ++ tk9 41 j :: f :: r)) = _
      unfold arrowM
      rw [M_bind now_ok]
      show (isM [40] >>= _) _ = _
      rw [M_bind (is_yes rfl)]
      show (closedM >>= _) _ = _
      rw [M_bind hcl]
      show some (Except.ok (saysB f [61, 62], _)) = _
      rw [stop_says hf (by decide)]
      rfl
    · show primaryM (K + 2) (gr (K + 2) m0) (tk9 40 i :: t :: (l ++ tk9 41 j :: f :: r)) = _
      unfold primaryM
      rw [M_bind now_ok]
      show (takeM [40] >>= _) _ = _
      rw [M_bind (take_yes rfl)]
      show (gr (K + 2) m0 .expr >>= _) _ = _
      rw [M_bind (show gr (K + 2) m0 .expr (t :: (l ++ tk9 41 j :: f :: r)) = _ from hx), M_bind (must_yes rfl)]
      rfl
  · obtain ⟨x, hx⟩ := ih (N + 4) (tk9 93 j) (f :: r) (stop_shut 1 j)
    rw [show N + 20 * (n + 1) + 16 = ((N + 4) + 20 * n + 16) + 1 + 15 by omega]
    generalize (N + 4) + 20 * n + 16 = m0 at hx ⊢
    refine ⟨.node 19 [] 0 i [x], expr_prim (K := K + 1) (n := m0 + 1) hf (.inr ⟨rfl, .inr (.inl rfl)⟩) rfl ?_⟩
    show primaryM (K + 2) (gr (K + 2) m0) (tk9 91 i :: t :: (l ++ tk9 93 j :: f :: r)) = _
    unfold primaryM
    rw [M_bind now_ok]
    show (takeM [40] >>= _) _ = _
    rw [M_bind (take_no rfl)]
    show (takeM [91] >>= _) _ = _
    rw [M_bind (take_yes rfl)]
    show (isM [93] >>= _) _ = _
    rw [M_bind (is_no ht1)]
    show ((listM (K + 2) (gr (K + 2) m0 .expr) >>= _) >>= _) _ = _
    rw [M.assoc, M_bind (list_one (show gr (K + 2) m0 .expr (t :: (l ++ tk9 93 j :: f :: r)) = _ from hx) rfl)]
    rw [M.pureb, M_bind (must_yes rfl)]
    rfl
  · obtain ⟨x, hx⟩ := ih (N + 4) (tk9 41 j) (f :: r) (stop_shut 2 j)
    rw [show N + 20 * (n + 1) + 16 = ((N + 4) + 20 * n + 16) + 2 + 14 by omega]
    generalize (N + 4) + 20 * n + 16 = m0 at hx ⊢
    have hgiv : gr (K + 2) (m0 + 1) .given (tk9 40 (i + 1) :: t :: (l ++ tk9 41 j :: f :: r)) = some (.ok (.node 2 [] 0 t.pos [x], f :: r)) := by
     show givenM (K + 2) (gr (K + 2) m0) _ = _
     unfold givenM
     rw [M_bind (must_yes rfl), M_bind (show emptyM (t :: (l ++ tk9 41 j :: f :: r)) = some (.ok (.node 2 [] 0 t.pos [], t :: (l ++ tk9 41 j :: f :: r))) from rfl), M_bind (is_no ht2)]
     show (listM (K + 2) (gr (K + 2) m0 .expr) >>= _) _ = _
     rw [M_bind (list_one (show gr (K + 2) m0 .expr (t :: (l ++ tk9 41 j :: f :: r)) = _ from hx) rfl), M_bind (must_yes rfl)]
     rfl
    refine ⟨.node 27 [] 0 i [.node 17 [102] 0 i [], .node 2 [] 0 ((i + 1 : Nat) : Int) [], .node 2 [] 0 t.pos [x]], expr_stop (n := m0 + 2) hf (by omega) (pre_no (.inl ⟨by show (1 : Int) ≠ 9; decide, by show (1 : Int) ≠ 2; decide⟩)) rfl ?_⟩
    show postfM (K + 2) (gr (K + 2) (m0 + 1)) (tk1 102 i :: tk9 40 (i + 1) :: t :: (l ++ tk9 41 j :: f :: r)) = _
    unfold postfM
    rw [M_bind now_ok, M_bind (show gr (K + 2) (m0 + 1) .primary (tk1 102 i :: tk9 40 (i + 1) :: t :: (l ++ tk9 41 j :: f :: r)) = some (.ok (.node 17 [102] 0 i [], tk9 40 (i + 1) :: t :: (l ++ tk9 41 j :: f :: r))) from rfl)]
    unfold partsM
    rw [M_bind (take_no rfl)]
    show (takeM [91] >>= _) _ = _
    rw [M_bind (take_no rfl)]
    show (isM [40] >>= _) _ = _
    rw [M_bind (is_yes rfl)]
    show ((Pure.pure true : M Bool) >>= _) _ = _
    rw [M.pureb]
    show (gr (K + 2) (m0 + 1) .args >>= _) _ = _
    rw [M_bind (show gr (K + 2) (m0 + 1) .args (tk9 40 (i + 1) :: t :: (l ++ tk9 41 j :: f :: r)) = some (.ok (.node 2 [] 0 ((i + 1 : Nat) : Int) [], tk9 40 (i + 1) :: t :: (l ++ tk9 41 j :: f :: r))) from rfl), M_bind hgiv]
    exact parts_stop hf
  · obtain ⟨x, hx⟩ := ih (N + 3) (tk9 125 j) (f :: r) (stop_shut (k + 3) j)
    rw [show N + 20 * (n + 1) + 16 = ((N + 3) + 20 * n + 16) + 2 + 15 by omega]
    generalize (N + 3) + 20 * n + 16 = m0 at hx ⊢
    have hpairs : pairsM (gr (K + 2) m0) (K + 2) [] (tk1 97 (i + 1) :: tk9 58 (i + 1 + 1) :: t :: (l ++ tk9 125 j :: f :: r)) = some (.ok ([.node 21 [97] 0 ((i + 1 : Nat) : Int) [x]], tk9 125 j :: f :: r)) := by
     unfold pairsM
     rw [M_bind (is_no rfl)]
     show (nowM >>= _) _ = _
     rw [M_bind now_ok, M_bind (show nameM (tk1 97 (i + 1) :: tk9 58 (i + 1 + 1) :: t :: (l ++ tk9 125 j :: f :: r)) = some (.ok ([97], tk9 58 (i + 1 + 1) :: t :: (l ++ tk9 125 j :: f :: r))) from rfl), M_bind (take_yes rfl)]
     show (gr (K + 2) m0 .expr >>= _) _ = _
     rw [M_bind (show gr (K + 2) m0 .expr (t :: (l ++ tk9 125 j :: f :: r)) = _ from hx), M_bind (take_no rfl)]
     rfl
    refine ⟨.node 20 [] 0 i [.node 21 [97] 0 ((i + 1 : Nat) : Int) [x]], expr_prim (K := K + 1) (n := m0 + 2) hf (.inr ⟨rfl, .inr (.inr rfl)⟩) rfl ?_⟩
    show primaryM (K + 2) (gr (K + 2) (m0 + 1)) (tk9 123 i :: tk1 97 (i + 1) :: tk9 58 (i + 1 + 1) :: t :: (l ++ tk9 125 j :: f :: r)) = _
    unfold primaryM
    rw [M_bind now_ok]
    show (takeM [40] >>= _) _ = _
    rw [M_bind (take_no rfl)]
    show (takeM [91] >>= _) _ = _
    rw [M_bind (take_no rfl)]
    show objectM (K + 2) (gr (K + 2) m0) _ = _
    unfold objectM
    rw [M_bind now_ok, M_bind (must_yes rfl), M_bind hpairs, M_bind (must_yes rfl)]
    rfl
end
/-- what a text of nested brackets comes to -/
theorem bound_ok {k n : Nat} (hn : n ≤ 64) : ∃ x, wholeB (boundB k n) KF NF 1 = some (.inl x) := by
 obtain ⟨x, hx⟩ := nest_expr (K := 19998) (nest_bound k n 0 (n * (openB k).length) (n * (openB k).length + 1)) (399984 - 20 * n) ⟨10, [], ((n * (openB k).length + 1 + n : Nat) : Int), ((n * (openB k).length + 1 + n : Nat) : Int)⟩ [] (.inl rfl)
 rw [show 399984 - 20 * n + 20 * n + 16 = NF by unfold NF; omega, show 19998 + 2 = KF from rfl] at hx
 refine ⟨x, ?_⟩
 have ht : oT k n 0 ++ tk3 49 (n * (openB k).length) :: sT k n (n * (openB k).length + 1) ++ [⟨10, [], ((n * (openB k).length + 1 + n : Nat) : Int), ((n * (openB k).length + 1 + n : Nat) : Int)⟩] = boundT k n := by
  unfold boundT; simp
 rw [ht] at hx
 unfold wholeB
 rw [bound_tokens (by omega)]
 dsimp only
 rw [bound_flat hn, show decide ((0 : Int) ≤ -1) = false by decide]
 simp only [cond_false]
 have hr : runM KF (gr KF NF) 1 (boundT k n) = some (.ok (x, [⟨10, [], ((n * (openB k).length + 1 + n : Nat) : Int), ((n * (openB k).length + 1 + n : Nat) : Int)⟩])) := by
  unfold runM
  show (gr KF NF .expr >>= _) _ = _
  rw [M_bind hx]
  rfl
 rw [hr]
theorem bound_bad {k n : Nat} (h1 : 64 < n) (hn : n ≤ 200) : wholeB (boundB k n) KF NF 1 = some (.inr (((64 * (openB k).length + plusK k : Nat) : Int), 5)) := by
 obtain ⟨e1, e2⟩ := bound_deep (k := k) h1
 unfold wholeB
 rw [bound_tokens hn]
 dsimp only
 rw [e1, show decide ((0 : Int) ≤ ((64 * wid4 k + plusK k : Nat) : Int)) = true by simp; omega]
 simp only [cond_true]
 rw [Int.toNat_natCast, e2]
theorem bound_len {k n : Nat} (hn : n ≤ 200) : (boundB k n).length ≤ 1200 := by
 have h4 := (open_len k).2
 have hb : n * (openB k).length ≤ 200 * 4 := Nat.mul_le_mul hn h4
 unfold boundB
 rw [List.length_append, List.length_cons, rep_len, rep_len]; simp; omega
end Go.Proofs

namespace Go.Proofs
open Go.Px Tryz
section
variable {pb tb cap K : Nat} {L : List Tk} {g : NT → M PT} {gx : GX} {rx : RX}
theorem opens_get {k : Nat} (h : k < 4) : ([Tx [40], Tx [91], Tx [102, 40], Tx [123, 97, 58, 32]] : List Value)[k]? = some (Tx (openB k)) := by
 rcases k with _ | _ | _ | _ | k
 · rfl
 · rfl
 · rfl
 · rfl
 · omega
theorem shuts_get {k : Nat} (h : k < 4) : ([Tx [41], Tx [93], Tx [41], Tx [125]] : List Value)[k]? = some (Tx [shutC k]) := by
 rcases k with _ | _ | _ | _ | k
 · rfl
 · rfl
 · rfl
 · rfl
 · omega
theorem c_boundsI (n kk : Int) (hn64 : n ≤ 64) : ∀ F w, Sat ([(GMx gx)] ++ F) w → Calls prog 8 [Iv n, Iv kk].toArray w fun e w' => e = .returned (.bool true) ∧ Sat ([(GMx gx)] ++ F) w' := by
 intro F
 have tm : -4 < kk.tmod 4 ∧ kk.tmod 4 < 4 := ⟨by have := Int.lt_tmod_of_pos kk (show (0:Int) < 4 by decide); omega, Int.tmod_lt_of_pos kk (by decide)⟩
 obtain ⟨ra, hra⟩ : ∃ r, kk.tmod 4 = r := ⟨_, rfl⟩
 rw [hra] at tm
 refine calls_of_WC (fn := f8) func8 rfl rfl (Sr (Av (.bool false) (Nz (Mv (Iv n) (Bo (Iv n) (Iv 1) (.bool (decide (n < 1))) eqg_int (binOp_lss _ _ _ _) (Mv (.bool (decide (n < 1))) ?_))))))
 cases hb1 : (decide (n < 1))
 · have hn1 := of_decide_eq_false hb1
   refine Ta false 17 (Mv (Iv n) (Ta false 17 (Bo (Iv n) (Iv 200) (.bool false) eqg_int (by rw [binOp_gtr]; rw [decide_eq_false (by omega)]) (Pk false (Nt (Fx (Bl 9 [Tx [40], Tx [91], Tx [102, 40], Tx [123, 97, 58, 32]] (bs40_4 _ _ _ _ rfl rfl rfl rfl ) fun b2 => Av (Sl b2 4 4) (Ny (Bl 9 [Tx [41], Tx [93], Tx [41], Tx [125]] (bs40_4 _ _ _ _ rfl rfl rfl rfl ) fun b3 => Av (Sl b3 4 4) (Ny (Mv (Iv kk) (Mv (Sl b2 4 4) (WL_rd (rd_lenS (a := (some ⟨b2, 0, none⟩)) (k := 4) runUnderlying40 rfl) (Bo (Iv kk) (Iv 4) (Iv ra) eqg_int ((bin_rem (by decide)).trans (by rw [hra])) (Av (Iv ra) (Nt ?_))))))))))))))))
   refine WC_join (α := Nat) (fun x => x < 4) (fun x => [(0, Iv n), (5, Sl b2 4 4), (6, Sl b3 4 4), (7, Iv ((x : Nat) : Int))]) (fun x => Cl b3 9 [Tx [41], Tx [93], Tx [41], Tx [125]] :: Cl b2 9 [Tx [40], Tx [91], Tx [102, 40], Tx [123, 97, 58, 32]] :: (GMx gx) :: F) ?_ ?_
   · refine Sr (Mv (Iv ra) (Bo (Iv ra) (Iv 0) (.bool (decide (ra < 0))) eqg_int (binOp_lss _ _ _ _) (Nt ?_)))
     cases hb4 : (decide (ra < 0))
     · have gra := of_decide_eq_false hb4
       refine WC_false rfl (WC_skip ?_)
       obtain ⟨z, hz, hz9⟩ : ∃ z : Nat, ra = (z : Int) ∧ z < 4 := ⟨(ra).toNat, by omega, by omega⟩
       exact At_join z (show z < 4 from hz9) ⟨rfl, rfl, rfl, congrArg (Value.int .i64) hz, trivial⟩ (E3 Z0 Z0 Z0)
     · have gra := of_decide_eq_true hb4
       refine Tr (Mv (Iv ra) (Mv (Sl b2 4 4) (WL_rd (rd_lenS (a := (some ⟨b2, 0, none⟩)) (k := 4) runUnderlying40 rfl) (Bo (Iv ra) (Iv 4) (Iv (ra + 4)) eqg_int (bin_add (by omega) (by omega)) (Av (Iv (ra + 4)) (WL_nil ?_))))))
       obtain ⟨z, hz, hz9⟩ : ∃ z : Nat, ra + 4 = (z : Int) ∧ z < 4 := ⟨(ra + 4).toNat, by omega, by omega⟩
       exact At_join z (show z < 4 from hz9) ⟨rfl, rfl, rfl, congrArg (Value.int .i64) hz, trivial⟩ (E3 Z0 Z0 Z0)
   · rintro k σ hpre
     replace hpre : k < 4 := hpre
     have hk4 := hpre
     have hol := open_len k
     show WC prog _ _ _ (upds σ [(0, Iv n), (5, Sl b2 4 4), (6, Sl b3 4 4), (7, Iv ((k : Nat) : Int))]) _ (Cl b3 9 [Tx [41], Tx [93], Tx [41], Tx [125]] :: Cl b2 9 [Tx [40], Tx [91], Tx [102, 40], Tx [123, 97, 58, 32]] :: (GMx gx) :: F)
     refine Sr (Av (Tx []) (Ny (Av (Tx []) (Nz (Av (Iv 0) (Nt (WC_block (WC_loopF (α := Nat) (fun x => (x : Int) ≤ n) (fun x => [(0, Iv n), (5, Sl b2 4 4), (6, Sl b3 4 4), (7, Iv ((k : Nat) : Int)), (8, .string (bs (rep (openB k) x))), (9, Tx (rep [shutC k] x)), (10, Iv ((x : Nat) : Int))]) (fun x => Cl b3 9 [Tx [41], Tx [93], Tx [41], Tx [125]] :: Cl b2 9 [Tx [40], Tx [91], Tx [102, 40], Tx [123, 97, 58, 32]] :: (GMx gx) :: F) (fun x => n.toNat - x) 0 (show (0 : Int) ≤ n from (by omega)) ⟨rfl, rfl, rfl, rfl, rfl, rfl, rfl, trivial⟩ (E3 Z0 Z0 Z0) ?_))))))))
     rintro i σ hpre
     replace hpre : (i : Int) ≤ n := hpre
     show WC prog _ _ _ (upds σ [(0, Iv n), (5, Sl b2 4 4), (6, Sl b3 4 4), (7, Iv ((k : Nat) : Int)), (8, .string (bs (rep (openB k) i))), (9, Tx (rep [shutC k] i)), (10, Iv ((i : Nat) : Int))]) _ (Cl b3 9 [Tx [41], Tx [93], Tx [41], Tx [125]] :: Cl b2 9 [Tx [40], Tx [91], Tx [102, 40], Tx [123, 97, 58, 32]] :: (GMx gx) :: F)
     refine Sz (Mv (Iv ((i : Nat) : Int)) (Mv (Iv n) (Bo (Iv ((i : Nat) : Int)) (Iv n) (.bool (decide (((i : Nat) : Int) < n))) eqg_int (binOp_lss _ _ _ _) (Nt ?_))))
     cases hb5 : (decide (((i : Nat) : Int) < n))
     · have hrl : (rep (openB k) i).length ≤ 800 := by rw [rep_len]; exact Nat.mul_le_mul (show i ≤ 200 by omega) hol.2
       have hsl : (rep [shutC k] i).length ≤ 200 := by rw [rep_len]; simp; omega
       have hin : (i : Int) = n := by have := of_decide_eq_false hb5; omega
       have htl : ((rep (openB k) i ++ [49]) ++ rep [shutC k] i).length ≤ 2000 := by simp only [List.length_append, List.length_cons, List.length_nil]; omega
       have hB : ((rep (openB k) i ++ [49]) ++ rep [shutC k] i) = boundB k i := by unfold boundB; simp
       obtain ⟨x, hx⟩ := bound_ok (k := k) (show i ≤ 64 by omega)
       obtain ⟨fs, hfs⟩ : ∃ fs, laidB (boundB k i) 1 = some fs := ⟨lay x, by unfold laidB; rw [hx]⟩
       rw [← hB] at hfs
       refine WC_false rfl (WC_exit (At_thenX (At_loopX (At_blockX (At_then (Sr (Mv (.string (bs (rep (openB k) i))) (WL_rd (rd_addBs (a := (rep (openB k) i)) (b := [49]) rfl rfl (by (try simp only [List.length_append, List.length_cons, List.length_nil]); omega)) (Mv (Tx (rep [shutC k] i)) (WL_rd (rd_addBs (a := ((rep (openB k) i) ++ [49])) (b := (rep [shutC k] i)) rfl rfl (by (try simp only [List.length_append, List.length_cons, List.length_nil]); omega)) (WL_ef (ef_strBytes (s := (((rep (openB k) i) ++ [49]) ++ (rep [shutC k] i))) rfl) fun y6 => WL_callX (α := { y : Nd // y.ss.length = fs.length ∧ fs.length ≤ y.cap }) (Δ0 := [RB (slV (some ⟨y6.1, 0, none⟩, (((rep (openB k) i) ++ [49]) ++ (rep [shutC k] i)).length, y6.2)) (((rep (openB k) i) ++ [49]) ++ (rep [shutC k] i)) (sbO y6.1 y6.2 (((rep (openB k) i) ++ [49]) ++ (rep [shutC k] i))), (GMx gx)]) (Δ := fun y7 => [NLo fs y7.1, Star KA fs y7.1.ss, RB (slV (some ⟨y6.1, 0, none⟩, (((rep (openB k) i) ++ [49]) ++ (rep [shutC k] i)).length, y6.2)) (((rep (openB k) i) ++ [49]) ++ (rep [shutC k] i)) (sbO y6.1 y6.2 (((rep (openB k) i) ++ [49]) ++ (rep [shutC k] i))), (GMx gx)]) (v := fun y7 => .tuple #[.agg #[Sl y7.1.b fs.length y7.1.cap], Iv 0, Iv 0]) call22 rfl (c_parsedF (sv := (some ⟨y6.1, 0, none⟩, (((rep (openB k) i) ++ [49]) ++ (rep [shutC k] i)).length, y6.2)) (kind := 1) (fs := fs) (by decide) htl hfs) (K2 Z0 Z2) fun y7 => Mv (.tuple #[.agg #[Sl y7.1.b fs.length y7.1.cap], Iv 0, Iv 0]) (Xt (.agg #[Sl y7.1.b fs.length y7.1.cap]) (Xt (Iv 0) (Xt (Iv 0) (WL_ef (ef_alloc (l := [.slice none 0 0]) zeroValue26 rfl) fun b8 => Sa b8 0 [Sl y7.1.b fs.length y7.1.cap] sizeOf26 Z0 (.put .done) (Av (Iv 0) (Av (Iv 0) (Nz (Mv (Iv n) (Bo (Iv n) (Iv 64) (.bool true) eqg_int (by rw [binOp_leq]; rw [decide_eq_true (by omega)]) (Nt (Ts (Mv (Iv 0) (Bo (Iv 0) (Iv 0) (.bool true) eqg_int (by rw [binOp_eql]; rfl) (Mv (.bool true) (Ta true 65 (WL_callQ (Δ := [(GMx gx)]) (v := .bool true) call21 rfl (c_known) (K1 Z4) (Pk true (Av (.bool true) (Nr (At_thenR ?_)))))))))))))))))))))))))))))))
       exact At_ret1 results8 (fun w q => ⟨rfl, q.mono (En Z0 (.dropHead (.dropHead D4)))⟩)
     · have hrl : (rep (openB k) i).length ≤ 800 := by rw [rep_len]; exact Nat.mul_le_mul (show i ≤ 200 by omega) hol.2
       have hsl : (rep [shutC k] i).length ≤ 200 := by rw [rep_len]; simp; omega
       have hin := of_decide_eq_true hb5
       refine WC_true rfl (WC_skip (At_then (WC_seq (WC_block (Sr (Mv (.string (bs (rep (openB k) i))) (Mv (Sl b2 4 4) (Mv (Iv ((k : Nat) : Int)) (WL_rd (rd_idxN (j := k) (o := k) runUnderlying40 sizeOf9 rfl rfl rfl hk4 (Nat.mul_one k)) (Lo b2 k (Tx (openB k)) isAgg9 Z1 (opens_get hk4) (WL_rd (rd_addBs (a := (rep (openB k) i)) (b := (openB k)) rfl rfl (by (try simp only [List.length_append, List.length_cons, List.length_nil]); omega)) (Av (.string (bs ((rep (openB k) i) ++ (openB k)))) (Nt (WC_region (Mv (Sl b3 4 4) (Mv (Iv ((k : Nat) : Int)) (WL_rd (rd_idxN (j := k) (o := k) runUnderlying40 sizeOf9 rfl rfl rfl hk4 (Nat.mul_one k)) (Lo b3 k (Tx [shutC k]) isAgg9 Z0 (shuts_get hk4) (Mv (Tx (rep [shutC k] i)) (WL_rd (rd_addBs (a := [shutC k]) (b := (rep [shutC k] i)) rfl rfl (by (try simp only [List.length_append, List.length_cons, List.length_nil]); omega)) (Av (.string (bs ([shutC k] ++ (rep [shutC k] i)))) (WL_nil (At_blockN (At_then (WC_region (Mv (Iv ((i : Nat) : Int)) (Bo (Iv ((i : Nat) : Int)) (Iv 1) (Iv (((i : Nat) : Int) + 1)) eqg_int (bin_add (by omega) (by omega)) (Av (Iv (((i : Nat) : Int) + 1)) (WL_nil ?_)))))))))))))))))))))))))))))
       exact At_againF (i + 1) (show ((i + 1) : Int) ≤ n from (by omega)) ⟨rfl, rfl, rfl, rfl, congrArg (fun x => Value.string (bs x)) (rep_snoc (openB k) i), rfl, rfl, trivial⟩ (E3 Z0 Z0 Z0) (show n.toNat - (i + 1) < n.toNat - i by omega)
 · refine Pa true 17 (Pa true 17 (Pk true (Nt (Ts (WL_callQ (Δ := [(GMx gx)]) (v := .bool true) call21 rfl (c_known) (K1 Z0) (Av (.bool true) (Nr (At_thenR ?_))))))))
   exact At_ret1 results8 (fun w q => ⟨rfl, q.mono (E1 Z0)⟩)
theorem c_boundsO (n kk : Int) (hn64 : 64 < n) : ∀ F w, Sat ([(GMx gx)] ++ F) w → Calls prog 8 [Iv n, Iv kk].toArray w fun e w' => e = .returned (.bool true) ∧ Sat ([(GMx gx)] ++ F) w' := by
 intro F
 have tm : -4 < kk.tmod 4 ∧ kk.tmod 4 < 4 := ⟨by have := Int.lt_tmod_of_pos kk (show (0:Int) < 4 by decide); omega, Int.tmod_lt_of_pos kk (by decide)⟩
 obtain ⟨ra, hra⟩ : ∃ r, kk.tmod 4 = r := ⟨_, rfl⟩
 rw [hra] at tm
 refine calls_of_WC (fn := f8) func8 rfl rfl (Sr (Av (.bool false) (Nz (Mv (Iv n) (Bo (Iv n) (Iv 1) (.bool false) eqg_int (by rw [binOp_lss]; rw [decide_eq_false (by omega)]) (Mv (.bool false) (Ta false 17 (Mv (Iv n) (Ta false 17 (Bo (Iv n) (Iv 200) (.bool (decide (n > 200))) eqg_int (binOp_gtr _ _ _ _) (Pk false (Nt ?_))))))))))))
 cases hb1 : (decide (n > 200))
 · have hn2 := of_decide_eq_false hb1
   refine Fx (Bl 9 [Tx [40], Tx [91], Tx [102, 40], Tx [123, 97, 58, 32]] (bs40_4 _ _ _ _ rfl rfl rfl rfl ) fun b2 => Av (Sl b2 4 4) (Ny (Bl 9 [Tx [41], Tx [93], Tx [41], Tx [125]] (bs40_4 _ _ _ _ rfl rfl rfl rfl ) fun b3 => Av (Sl b3 4 4) (Ny (Mv (Iv kk) (Mv (Sl b2 4 4) (WL_rd (rd_lenS (a := (some ⟨b2, 0, none⟩)) (k := 4) runUnderlying40 rfl) (Bo (Iv kk) (Iv 4) (Iv ra) eqg_int ((bin_rem (by decide)).trans (by rw [hra])) (Av (Iv ra) (Nt ?_))))))))))
   refine WC_join (α := Nat) (fun x => x < 4) (fun x => [(0, Iv n), (5, Sl b2 4 4), (6, Sl b3 4 4), (7, Iv ((x : Nat) : Int))]) (fun x => Cl b3 9 [Tx [41], Tx [93], Tx [41], Tx [125]] :: Cl b2 9 [Tx [40], Tx [91], Tx [102, 40], Tx [123, 97, 58, 32]] :: (GMx gx) :: F) ?_ ?_
   · refine Sr (Mv (Iv ra) (Bo (Iv ra) (Iv 0) (.bool (decide (ra < 0))) eqg_int (binOp_lss _ _ _ _) (Nt ?_)))
     cases hb4 : (decide (ra < 0))
     · have gra := of_decide_eq_false hb4
       refine WC_false rfl (WC_skip ?_)
       obtain ⟨z, hz, hz9⟩ : ∃ z : Nat, ra = (z : Int) ∧ z < 4 := ⟨(ra).toNat, by omega, by omega⟩
       exact At_join z (show z < 4 from hz9) ⟨rfl, rfl, rfl, congrArg (Value.int .i64) hz, trivial⟩ (E3 Z0 Z0 Z0)
     · have gra := of_decide_eq_true hb4
       refine Tr (Mv (Iv ra) (Mv (Sl b2 4 4) (WL_rd (rd_lenS (a := (some ⟨b2, 0, none⟩)) (k := 4) runUnderlying40 rfl) (Bo (Iv ra) (Iv 4) (Iv (ra + 4)) eqg_int (bin_add (by omega) (by omega)) (Av (Iv (ra + 4)) (WL_nil ?_))))))
       obtain ⟨z, hz, hz9⟩ : ∃ z : Nat, ra + 4 = (z : Int) ∧ z < 4 := ⟨(ra + 4).toNat, by omega, by omega⟩
       exact At_join z (show z < 4 from hz9) ⟨rfl, rfl, rfl, congrArg (Value.int .i64) hz, trivial⟩ (E3 Z0 Z0 Z0)
   · rintro k σ hpre
     replace hpre : k < 4 := hpre
     have hk4 := hpre
     have hol := open_len k
     show WC prog _ _ _ (upds σ [(0, Iv n), (5, Sl b2 4 4), (6, Sl b3 4 4), (7, Iv ((k : Nat) : Int))]) _ (Cl b3 9 [Tx [41], Tx [93], Tx [41], Tx [125]] :: Cl b2 9 [Tx [40], Tx [91], Tx [102, 40], Tx [123, 97, 58, 32]] :: (GMx gx) :: F)
     refine Sr (Av (Tx []) (Ny (Av (Tx []) (Nz (Av (Iv 0) (Nt (WC_block (WC_loopF (α := Nat) (fun x => (x : Int) ≤ n) (fun x => [(0, Iv n), (5, Sl b2 4 4), (6, Sl b3 4 4), (7, Iv ((k : Nat) : Int)), (8, .string (bs (rep (openB k) x))), (9, Tx (rep [shutC k] x)), (10, Iv ((x : Nat) : Int))]) (fun x => Cl b3 9 [Tx [41], Tx [93], Tx [41], Tx [125]] :: Cl b2 9 [Tx [40], Tx [91], Tx [102, 40], Tx [123, 97, 58, 32]] :: (GMx gx) :: F) (fun x => n.toNat - x) 0 (show (0 : Int) ≤ n from (by omega)) ⟨rfl, rfl, rfl, rfl, rfl, rfl, rfl, trivial⟩ (E3 Z0 Z0 Z0) ?_))))))))
     rintro i σ hpre
     replace hpre : (i : Int) ≤ n := hpre
     show WC prog _ _ _ (upds σ [(0, Iv n), (5, Sl b2 4 4), (6, Sl b3 4 4), (7, Iv ((k : Nat) : Int)), (8, .string (bs (rep (openB k) i))), (9, Tx (rep [shutC k] i)), (10, Iv ((i : Nat) : Int))]) _ (Cl b3 9 [Tx [41], Tx [93], Tx [41], Tx [125]] :: Cl b2 9 [Tx [40], Tx [91], Tx [102, 40], Tx [123, 97, 58, 32]] :: (GMx gx) :: F)
     refine Sz (Mv (Iv ((i : Nat) : Int)) (Mv (Iv n) (Bo (Iv ((i : Nat) : Int)) (Iv n) (.bool (decide (((i : Nat) : Int) < n))) eqg_int (binOp_lss _ _ _ _) (Nt ?_))))
     cases hb5 : (decide (((i : Nat) : Int) < n))
     · have hrl : (rep (openB k) i).length ≤ 800 := by rw [rep_len]; exact Nat.mul_le_mul (show i ≤ 200 by omega) hol.2
       have hsl : (rep [shutC k] i).length ≤ 200 := by rw [rep_len]; simp; omega
       have hin : (i : Int) = n := by have := of_decide_eq_false hb5; omega
       have htl : ((rep (openB k) i ++ [49]) ++ rep [shutC k] i).length ≤ 2000 := by simp only [List.length_append, List.length_cons, List.length_nil]; omega
       have hB : ((rep (openB k) i ++ [49]) ++ rep [shutC k] i) = boundB k i := by unfold boundB; simp
       have hfs := bound_bad (k := k) (show 64 < i by omega) (by omega)
       rw [← hB] at hfs
       refine WC_false rfl (WC_exit (At_thenX (At_loopX (At_blockX (At_then (Sr (Mv (.string (bs (rep (openB k) i))) (WL_rd (rd_addBs (a := (rep (openB k) i)) (b := [49]) rfl rfl (by (try simp only [List.length_append, List.length_cons, List.length_nil]); omega)) (Mv (Tx (rep [shutC k] i)) (WL_rd (rd_addBs (a := ((rep (openB k) i) ++ [49])) (b := (rep [shutC k] i)) rfl rfl (by (try simp only [List.length_append, List.length_cons, List.length_nil]); omega)) (WL_ef (ef_strBytes (s := (((rep (openB k) i) ++ [49]) ++ (rep [shutC k] i))) rfl) fun y6 => WL_callQ (Δ := [RB (slV (some ⟨y6.1, 0, none⟩, (((rep (openB k) i) ++ [49]) ++ (rep [shutC k] i)).length, y6.2)) (((rep (openB k) i) ++ [49]) ++ (rep [shutC k] i)) (sbO y6.1 y6.2 (((rep (openB k) i) ++ [49]) ++ (rep [shutC k] i))), (GMx gx)]) (v := .tuple #[.agg #[.slice none 0 0], Iv ((64 * (openB k).length + plusK k : Nat) : Int), Iv 5]) call22 rfl (c_refused (sv := (some ⟨y6.1, 0, none⟩, (((rep (openB k) i) ++ [49]) ++ (rep [shutC k] i)).length, y6.2)) (kind := 1) (by decide) htl hfs) (K2 Z0 Z2) (Mv (.tuple #[.agg #[.slice none 0 0], Iv ((64 * (openB k).length + plusK k : Nat) : Int), Iv 5]) (Xt (.agg #[.slice none 0 0]) (Xt (Iv ((64 * (openB k).length + plusK k : Nat) : Int)) (Xt (Iv 5) (WL_ef (ef_alloc (l := [.slice none 0 0]) zeroValue26 rfl) fun b7 => Sa b7 0 [.slice none 0 0] sizeOf26 Z0 (.put .done) (Av (Iv ((64 * (openB k).length + plusK k : Nat) : Int)) (Av (Iv 5) (Nz (Mv (Iv n) (Bo (Iv n) (Iv 64) (.bool false) eqg_int (by rw [binOp_leq]; rw [decide_eq_false (by omega)]) (Nt (Fx (Mv (Sl b2 4 4) (Mv (Iv ((k : Nat) : Int)) (WL_rd (rd_idxN (j := k) (o := k) runUnderlying40 sizeOf9 rfl rfl rfl hk4 (Nat.mul_one k)) (Lo b2 k (Tx (openB k)) isAgg9 Z4 (opens_get hk4) (WL_rd (rd_lenBs (s := (openB k)) runUnderlying9 rfl) (Bo (Iv 64) (Iv (((openB k).length : Nat) : Int)) (Iv (64 * (((openB k).length : Nat) : Int))) eqg_int (bin_mul (by omega) (by omega)) (Av (Iv (64 * (((openB k).length : Nat) : Int))) (Nz (Mv (Iv ((k : Nat) : Int)) (Bo (Iv ((k : Nat) : Int)) (Iv 2) (.bool (((k : Nat) : Int) == 2)) eqg_int (binOp_eql _ _ _ _) (Nt ?_))))))))))))))))))))))))))))))))))
       cases hb8 : (((k : Nat) : Int) == 2)
       · have hk2 : ¬ k = 2 := by have h9 := hb8; simp at h9; omega
         refine Fx (Mv (Iv 5) (Bo (Iv 5) (Iv 5) (.bool true) eqg_int (by rw [binOp_eql]; rfl) (Mv (.bool true) (Ta true 80 (Mv (Iv ((64 * (openB k).length + plusK k : Nat) : Int)) (Ta true 80 (Mv (Iv (64 * (((openB k).length : Nat) : Int))) (Ta true 80 (Bo (Iv ((64 * (openB k).length + plusK k : Nat) : Int)) (Iv (64 * (((openB k).length : Nat) : Int))) (.bool true) eqg_int (by rw [binOp_eql]; rw [beq_iff_eq.2 (by unfold plusK; rw [if_neg hk2]; omega)]) (Pk true (Mv (.bool true) (Ta true 85 (WL_callQ (Δ := [(GMx gx)]) (v := .bool true) call21 rfl (c_known) (K1 Z2) (Pk true (Av (.bool true) (Nr ?_))))))))))))))))
         exact At_ret1 results8 (fun w q => ⟨rfl, q.mono (En Z0 D4)⟩)
       · have hk2 : k = 2 := by have h9 := hb8; simp at h9; omega
         refine Tr (Mv (Iv (64 * (((openB k).length : Nat) : Int))) (Bo (Iv (64 * (((openB k).length : Nat) : Int))) (Iv 1) (Iv ((64 * (((openB k).length : Nat) : Int)) + 1)) eqg_int (bin_add (by omega) (by omega)) (Av (Iv ((64 * (((openB k).length : Nat) : Int)) + 1)) (Ny (Mv (Iv 5) (Bo (Iv 5) (Iv 5) (.bool true) eqg_int (by rw [binOp_eql]; rfl) (Mv (.bool true) (Ta true 80 (Mv (Iv ((64 * (openB k).length + plusK k : Nat) : Int)) (Ta true 80 (Mv (Iv ((64 * (((openB k).length : Nat) : Int)) + 1)) (Ta true 80 (Bo (Iv ((64 * (openB k).length + plusK k : Nat) : Int)) (Iv ((64 * (((openB k).length : Nat) : Int)) + 1)) (.bool true) eqg_int (by rw [binOp_eql]; rw [beq_iff_eq.2 (by unfold plusK; rw [if_pos hk2]; omega)]) (Pk true (Mv (.bool true) (Ta true 85 (WL_callQ (Δ := [(GMx gx)]) (v := .bool true) call21 rfl (c_known) (K1 Z2) (Pk true (Av (.bool true) (Nr ?_))))))))))))))))))))
         exact At_ret1 results8 (fun w q => ⟨rfl, q.mono (En Z0 D4)⟩)
     · have hrl : (rep (openB k) i).length ≤ 800 := by rw [rep_len]; exact Nat.mul_le_mul (show i ≤ 200 by omega) hol.2
       have hsl : (rep [shutC k] i).length ≤ 200 := by rw [rep_len]; simp; omega
       have hin := of_decide_eq_true hb5
       refine WC_true rfl (WC_skip (At_then (WC_seq (WC_block (Sr (Mv (.string (bs (rep (openB k) i))) (Mv (Sl b2 4 4) (Mv (Iv ((k : Nat) : Int)) (WL_rd (rd_idxN (j := k) (o := k) runUnderlying40 sizeOf9 rfl rfl rfl hk4 (Nat.mul_one k)) (Lo b2 k (Tx (openB k)) isAgg9 Z1 (opens_get hk4) (WL_rd (rd_addBs (a := (rep (openB k) i)) (b := (openB k)) rfl rfl (by (try simp only [List.length_append, List.length_cons, List.length_nil]); omega)) (Av (.string (bs ((rep (openB k) i) ++ (openB k)))) (Nt (WC_region (Mv (Sl b3 4 4) (Mv (Iv ((k : Nat) : Int)) (WL_rd (rd_idxN (j := k) (o := k) runUnderlying40 sizeOf9 rfl rfl rfl hk4 (Nat.mul_one k)) (Lo b3 k (Tx [shutC k]) isAgg9 Z0 (shuts_get hk4) (Mv (Tx (rep [shutC k] i)) (WL_rd (rd_addBs (a := [shutC k]) (b := (rep [shutC k] i)) rfl rfl (by (try simp only [List.length_append, List.length_cons, List.length_nil]); omega)) (Av (.string (bs ([shutC k] ++ (rep [shutC k] i)))) (WL_nil (At_blockN (At_then (WC_region (Mv (Iv ((i : Nat) : Int)) (Bo (Iv ((i : Nat) : Int)) (Iv 1) (Iv (((i : Nat) : Int) + 1)) eqg_int (bin_add (by omega) (by omega)) (Av (Iv (((i : Nat) : Int) + 1)) (WL_nil ?_)))))))))))))))))))))))))))))
       exact At_againF (i + 1) (show ((i + 1) : Int) ≤ n from (by omega)) ⟨rfl, rfl, rfl, rfl, congrArg (fun x => Value.string (bs x)) (rep_snoc (openB k) i), rfl, rfl, trivial⟩ (E3 Z0 Z0 Z0) (show n.toNat - (i + 1) < n.toNat - i by omega)
 · refine Ts (WL_callQ (Δ := [(GMx gx)]) (v := .bool true) call21 rfl (c_known) (K1 Z0) (Av (.bool true) (Nr (At_thenR ?_))))
   exact At_ret1 results8 (fun w q => ⟨rfl, q.mono (E1 Z0)⟩)
theorem c_bounds (n kk : Int) : ∀ F w, Sat ([(GMx gx)] ++ F) w → Calls prog 8 [Iv n, Iv kk].toArray w fun e w' => e = .returned (.bool true) ∧ Sat ([(GMx gx)] ++ F) w' := by
 by_cases h : n ≤ 64
 · exact c_boundsI n kk h
 · exact c_boundsO n kk (by omega)
end
end Go.Proofs
