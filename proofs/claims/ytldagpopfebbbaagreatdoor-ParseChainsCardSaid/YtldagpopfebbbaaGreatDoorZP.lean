/- A tree laid out, node by node. -/
import Derived.Test.YtldagpopfebbbaaGreatDoorZO
set_option linter.unusedVariables false
set_option linter.unusedSimpArgs false
namespace Go.Px
def kidsAt : List PT → Nat → List Int
 | [], _ => []
 | t :: l, b => (b : Int) :: kidsAt l (b + t.size)
mutual
def flat : PT → Nat → List FN
 | .node k s n a l, b => ⟨k, s, n, kidsAt l (b + 1), a⟩ :: flats l (b + 1)
def flats : List PT → Nat → List FN
 | [], _ => []
 | t :: l, b => flat t b ++ flats l (b + t.size)
end
mutual
theorem flat_len : ∀ (x : PT) (b : Nat), (flat x b).length = x.size
 | .node k s n a l, b => by unfold flat PT.size; rw [List.length_cons, flats_len l]
theorem flats_len : ∀ (l : List PT) (b : Nat), (flats l b).length = sizes l
 | [], b => by unfold flats sizes; rfl
 | t :: l, b => by unfold flats sizes; rw [List.length_append, flat_len t, flats_len l]
end
def addKids (fs : List FN) (p : Nat) (ks : List Int) : List FN := fs.modify p fun f => { f with kids := f.kids ++ ks }
theorem addKid_eq (fs : List FN) (p : Nat) (a : Int) : addKid fs p a = addKids fs p [a] := by
 unfold addKid addKids
 apply List.ext_getElem?
 intro i
 cases h : fs[p]? with
 | none =>
  simp only [List.getElem?_modify]
  by_cases e : p = i
  · subst e; simp [h]
  · simp [e]
 | some f =>
  simp only [List.getElem?_modify, List.getElem?_set]
  by_cases e : p = i
  · subst e
    obtain ⟨h1, h2⟩ := List.getElem?_eq_some_iff.1 h
    subst h2
    simp [h1]
  · simp [e]
theorem addKids_app {A B : List FN} {p : Nat} {ks : List Int} (h : p < A.length) : addKids (A ++ B) p ks = addKids A p ks ++ B := by
 unfold addKids
 apply List.ext_getElem?
 intro i
 by_cases hi : i < A.length
 · rw [List.getElem?_modify, List.getElem?_append_left hi, List.getElem?_append_left (by simpa using hi), List.getElem?_modify]
 · have e : ¬ p = i := by omega
   rw [List.getElem?_modify, List.getElem?_append_right (by omega), List.getElem?_append_right (by simpa using hi)]
   simp [e]
theorem addKids_two (A : List FN) (p : Nat) (a : Int) (ks : List Int) : addKids (addKids A p [a]) p ks = addKids A p (a :: ks) := by
 unfold addKids
 apply List.ext_getElem?
 intro i
 simp only [List.getElem?_modify]
 by_cases e : p = i <;> cases A[i]? <;> simp [e]
theorem addKids_nil (A : List FN) (p : Nat) : addKids A p [] = A := by
 unfold addKids
 apply List.ext_getElem?
 intro i
 simp only [List.getElem?_modify]
 by_cases e : p = i <;> cases A[i]? <;> simp [e]
theorem addKids_length (A : List FN) (p : Nat) (ks : List Int) : (addKids A p ks).length = A.length := by unfold addKids; simp
theorem addKids_last (A : List FN) (f : FN) (ks : List Int) : addKids (A ++ [f]) A.length ks = A ++ [{ f with kids := f.kids ++ ks }] := by
 induction A with
 | nil => rfl
 | cons a A ih =>
  show a :: addKids (A ++ [f]) A.length ks = _
  rw [ih]; rfl
mutual
theorem layK_tree : ∀ (x : PT) (p k : Nat) (st : List (PT × Int)) (fs : List FN), p < fs.length → layK (x.size + k) ((x, (p : Int)) :: st) fs = layK k st (addKids fs p [(fs.length : Int)] ++ flat x fs.length)
 | .node kk s n a l, p, k, st, fs, hp => by
  have e : (PT.node kk s n a l).size + k = (sizes l + k) + 1 := by unfold PT.size; omega
  rw [e]
  show layK (sizes l + k) (l.map (fun c => (c, (fs.length : Int))) ++ st) (bif decide (0 ≤ (p : Int)) then addKid (fs ++ [⟨kk, s, n, [], a⟩]) (p : Int).toNat fs.length else fs ++ [⟨kk, s, n, [], a⟩]) = _
  rw [show decide (0 ≤ (p : Int)) = true by simp, cond_true, Int.toNat_natCast, addKid_eq, addKids_app hp]
  have hl : (addKids fs p [(fs.length : Int)] ++ ([⟨kk, s, n, [], a⟩] : List FN)).length = fs.length + 1 := by simp [addKids_length]
  rw [layK_list l fs.length k st _ (by rw [hl]; omega), hl]
  have h2 := addKids_last (addKids fs p [(fs.length : Int)]) ⟨kk, s, n, [], a⟩ (kidsAt l (fs.length + 1))
  rw [addKids_length] at h2
  rw [h2, List.append_assoc]
  unfold flat
  rfl
theorem layK_list : ∀ (l : List PT) (p k : Nat) (st : List (PT × Int)) (fs : List FN), p < fs.length → layK (sizes l + k) (l.map (fun c => (c, (p : Int))) ++ st) fs = layK k st (addKids fs p (kidsAt l fs.length) ++ flats l fs.length)
 | [], p, k, st, fs, hp => by unfold sizes kidsAt flats; rw [addKids_nil, List.append_nil, Nat.zero_add]; rfl
 | x :: l, p, k, st, fs, hp => by
  unfold sizes
  rw [Nat.add_assoc, List.map_cons, List.cons_append, layK_tree x p _ _ fs hp]
  have hl : (addKids fs p [(fs.length : Int)] ++ flat x fs.length).length = fs.length + x.size := by rw [List.length_append, addKids_length, flat_len]
  rw [layK_list l p k st _ (by rw [hl]; omega), hl, addKids_app (by rw [addKids_length]; exact hp), addKids_two, List.append_assoc]
  rfl
end
end Go.Px
namespace Go.Proofs
open Go.Px
theorem lay_flat (x : PT) : lay x = flat x 0 := by
 obtain ⟨kk, s, n, a, l⟩ := x
 unfold lay
 have e : (PT.node kk s n a l).size = sizes l + 0 + 1 := by unfold PT.size; omega
 rw [e]
 show layK (sizes l + 0) (l.map (fun c => (c, ((0 : Nat) : Int))) ++ []) [⟨kk, s, n, [], a⟩] = _
 rw [layK_list l 0 0 [] [⟨kk, s, n, [], a⟩] (by simp)]
 have h2 := addKids_last [] ⟨kk, s, n, [], a⟩ (kidsAt l 1)
 unfold flat layK
 show addKids ([] ++ [⟨kk, s, n, [], a⟩]) ([] : List FN).length (kidsAt l 1) ++ flats l 1 = _
 rw [h2]; rfl
theorem kidsAt_len : ∀ (l : List PT) (b : Nat), (kidsAt l b).length = l.length
 | [], b => rfl
 | t :: l, b => by unfold kidsAt; rw [List.length_cons, kidsAt_len l, List.length_cons]
mutual
theorem flat_kids : ∀ (x : PT) (b : Nat), ∀ f ∈ flat x b, f.kids.length ≤ x.size
 | .node k s n a l, b, f, hf => by
  unfold flat at hf
  unfold PT.size
  rcases List.mem_cons.1 hf with rfl | hf
  · show (kidsAt l (b + 1)).length ≤ _
    rw [kidsAt_len]
    have := len_sizes l
    omega
  · have := flats_kids l (b + 1) f hf
    omega
theorem flats_kids : ∀ (l : List PT) (b : Nat), ∀ f ∈ flats l b, f.kids.length ≤ sizes l
 | [], b, f, hf => by unfold flats at hf; cases hf
 | t :: l, b, f, hf => by
  unfold flats at hf
  unfold sizes
  rcases List.mem_append.1 hf with hf | hf
  · have := flat_kids t b f hf
    omega
  · have := flats_kids l (b + t.size) f hf
    omega
end
theorem lay_len (x : PT) : (lay x).length = x.size := by rw [lay_flat, flat_len]
theorem lay_kids (x : PT) : ∀ f ∈ lay x, f.kids.length ≤ x.size := fun f hf => flat_kids x 0 f (by rw [← lay_flat]; exact hf)
/-- from b on, R is x laid out -/
def Emb (R : List FN) (b : Nat) (x : PT) : Prop := ∀ (i : Nat) f, (flat x b)[i]? = some f → R[b + i]? = some f
def Embs (R : List FN) (b : Nat) (l : List PT) : Prop := ∀ (i : Nat) f, (flats l b)[i]? = some f → R[b + i]? = some f
theorem emb_lay (x : PT) : Emb (lay x) 0 x := fun i f h => by rw [lay_flat, Nat.zero_add]; exact h
theorem emb_node {R : List FN} {b : Nat} {k n a : Int} {s : Bs} {l : List PT} (h : Emb R b (.node k s n a l)) : R[b]? = some ⟨k, s, n, kidsAt l (b + 1), a⟩ ∧ Embs R (b + 1) l := by
 refine ⟨h 0 _ (by unfold flat; rfl), fun i f hf => ?_⟩
 have := h (i + 1) f (by unfold flat; exact hf)
 rw [← this]; congr 1; omega
theorem embs_cons {R : List FN} {b : Nat} {x : PT} {l : List PT} (h : Embs R b (x :: l)) : Emb R b x ∧ Embs R (b + x.size) l := by
 have h2 : ∀ (i : Nat) f, (flat x b ++ flats l (b + x.size))[i]? = some f → R[b + i]? = some f := fun i f hf => h i f (by unfold flats; exact hf)
 refine ⟨fun i f hf => h2 i f ?_, fun i f hf => ?_⟩
 · rw [List.getElem?_append_left (List.getElem?_eq_some_iff.1 hf).1]; exact hf
 · have := h2 (x.size + i) f (by rw [List.getElem?_append_right (by rw [flat_len]; omega), flat_len]; rw [← hf]; congr 1; omega)
   rw [← this]; congr 1; omega
theorem emb_head {R : List FN} {b : Nat} {x : PT} (h : Emb R b x) : R[b]? = some ⟨x.kind, x.text, x.num, kidsAt x.kids (b + 1), x.pos⟩ := by
 obtain ⟨k, s, n, a, l⟩ := x; exact (emb_node h).1
theorem whole_er {l : Bs} {K N kind : Nat} {a er : Int} (h : wholeB l K N kind = some (.inr (a, er))) : er ≠ 0 := by
 unfold wholeB at h
 cases ht : tokensB l K with
 | none => rw [ht] at h; cases h
 | some r =>
  rw [ht] at h
  cases r with
  | inr e => cases h; have := tokensB_err ht; omega
  | inl ts =>
   dsimp only at h
   cases g : decide (0 ≤ (depthL 64 ts 0 0 0 (-1)).2) <;> rw [g] at h
   case true => cases h; decide
   simp only [cond_false] at h
   cases hr : runM K (gr K N) kind ts with
   | none => rw [hr] at h; cases h
   | some q =>
    rw [hr] at h
    cases q with
    | error a => cases h; decide
    | ok p => obtain ⟨y, ts'⟩ := p; cases h
end Go.Proofs

namespace Go.Proofs
open Go.Px
section
variable {L : Bs} {K i : Nat} {op : List Bool} {c : UInt8} {r : Bs}
theorem drop_get (h : L.drop i = c :: r) : L[i]? = some c ∧ i < L.length ∧ L.drop (i + 1) = r := by
 have h1 : i < L.length := by
  rcases Nat.lt_or_ge i L.length with h1 | h1
  · exact h1
  · rw [List.drop_eq_nil_of_le h1] at h; cases h
 rw [List.drop_eq_getElem_cons h1] at h
 obtain ⟨h2, h3⟩ := List.cons.inj h
 exact ⟨by rw [List.getElem?_eq_getElem h1, h2], h1, h3⟩
theorem has_not {x : Bs} {d : UInt8} {y : Bs} (h : L.drop i = c :: r) (hx : x = d :: y) (hd : (c == d) = false) : hasB L i x = false := by
 subst hx
 unfold hasB
 rw [h, List.length_cons, List.take_succ_cons]
 show (c == d && _) = false
 rw [hd]; rfl
theorem blanks_at (hK : 1 ≤ K) (h : L.drop i = c :: r) (h1 : blankB c = false) (h2 : (c == 47) = false) : blanksK L K i = some (true, i) := by
 obtain ⟨k, rfl⟩ : ∃ k, K = k + 1 := ⟨K - 1, by omega⟩
 rw [blanksK, (drop_get h).1]
 dsimp only
 rw [h1, has_not h rfl h2, has_not h rfl h2]
 rfl
theorem blanks_sp (h : L.drop i = 32 :: r) : blanksK L (K + 1) i = blanksK L K (i + 1) := by
 rw [blanksK, (drop_get h).1]
 rfl
theorem blanks_end (hK : 1 ≤ K) (h : L.drop i = []) (hi : i ≤ L.length) : blanksK L K i = some (true, i) ∧ i = L.length := by
 have h1 : i = L.length := by
  rcases Nat.lt_or_ge i L.length with h1 | h1
  · rw [List.drop_eq_getElem_cons h1] at h; cases h
  · omega
 obtain ⟨k, rfl⟩ : ∃ k, K = k + 1 := ⟨K - 1, by omega⟩
 rw [blanksK, h1, List.getElem?_eq_none (Nat.le_refl _)]
 exact ⟨rfl, rfl⟩
/-- no longer sign begins with these two -/
def noSign (c d : UInt8) : Bool := !Lib.contains [32, 61, 61, 61, 32, 33, 61, 61, 32, 62, 62, 62, 32] [32, c, d] && !Lib.contains [32, 61, 62, 32, 43, 61, 32, 45, 61, 32, 42, 61, 32, 37, 61, 32, 60, 61, 32, 62, 61, 32, 60, 60, 32, 62, 62, 32, 38, 38, 32, 124, 124, 32] [32, c, d]
theorem contains_pre {s x y : Bs} (h : Lib.contains s x = false) : Lib.contains s (x ++ y) = false := by
 unfold Lib.contains at h ⊢
 simp only [decide_eq_false_iff_not] at h ⊢
 intro h2
 rcases Lib.index_spec s (x ++ y) with ⟨h3, _⟩ | ⟨i, h3, h4, h5, _⟩
 · omega
 · rcases Lib.index_spec s x with ⟨h6, h7⟩ | ⟨j, h6, _⟩
   · have := h7 i h4
     unfold Lib.occAt at h5 this
     rw [List.isPrefixOf_iff_prefix] at h5
     have h8 : x <+: s.drop i := (List.prefix_append x y).trans h5
     rw [← List.isPrefixOf_iff_prefix, this] at h8
     cases h8
   · omega
/-- a sign of one byte: no longer one stands there -/
theorem sign_one (h : L.drop i = c :: r) (h1 : blankB c = false) (hs : Lib.contains ([32, 123, 32, 125] ++ [32, 40, 32, 41, 32, 91, 32, 93, 32, 46, 32, 44, 32, 59, 32, 58, 32, 63, 32, 61, 32, 43, 32, 45, 32, 42, 32, 37, 32, 33, 32, 126, 32, 60, 32, 62, 32, 38, 32, 124, 32, 94, 32]) [32, c, 32] = true)
 (h2 : ∀ d, r.head? = some d → noSign c d = true) : signL L i signs3 = ⟨9, [c], i, (i : Int) + 1⟩ := by
 obtain ⟨hc, hil, hr⟩ := drop_get h
 have key : ∀ (n : Nat) (s : Bs) (rest : List (Nat × Bs)), 2 ≤ n → (∀ d, r.head? = some d → Lib.contains s [32, c, d] = false) → signL L i ((n, s) :: rest) = signL L i rest := fun n s rest hn hd => by
  rw [signL]
  cases g : decide (L.length - i < n) with
  | true => rfl
  | false =>
   simp only [decide_eq_false_iff_not] at g
   dsimp only [cond_false]
   have ht : (cutT L 9 i (i + n)).text = c :: r.take (n - 1) := by
    show (L.drop i).take (i + n - i) = _
    rw [h, Nat.add_sub_cancel_left, show n = (n - 1) + 1 by omega, List.take_succ_cons]; rfl
   obtain ⟨d, r', rfl⟩ : ∃ d r', r = d :: r' := by
    cases r with
    | nil =>
     have := congrArg List.length h
     rw [List.length_drop, List.length_cons, List.length_nil] at this
     omega
    | cons d r' => exact ⟨d, r', rfl⟩
   have hno : Lib.contains s ([32] ++ (cutT L 9 i (i + n)).text ++ [32]) = false := by
    rw [ht, show n - 1 = (n - 2) + 1 by omega, List.take_succ_cons]
    exact contains_pre (x := [32, c, d]) (y := r'.take (n - 2) ++ [32]) (hd d rfl)
   rw [hno]
   simp only [Bool.not_false, Bool.or_true, cond_true]
 unfold signs3
 rw [key 3 _ _ (by decide) fun d hd => (by have := h2 d hd; unfold noSign at this; simp only [Bool.and_eq_true, Bool.not_eq_true'] at this; exact this.1), key 2 _ _ (by decide) fun d hd => (by have := h2 d hd; unfold noSign at this; simp only [Bool.and_eq_true, Bool.not_eq_true'] at this; exact this.2), signL]
 have ht : (cutT L 9 i (i + 1)).text = [c] := by
  show (L.drop i).take (i + 1 - i) = _
  rw [h, Nat.add_sub_cancel_left]; rfl
 rw [show decide (L.length - i < 1) = false by rw [decide_eq_false_iff_not]; omega]
 dsimp only [cond_false]
 rw [ht]
 have : (([c] : Bs).any blankB || !Lib.contains ([32, 123, 32, 125] ++ [32, 40, 32, 41, 32, 91, 32, 93, 32, 46, 32, 44, 32, 59, 32, 58, 32, 63, 32, 61, 32, 43, 32, 45, 32, 42, 32, 37, 32, 33, 32, 126, 32, 60, 32, 62, 32, 38, 32, 124, 32, 94, 32]) ([32] ++ [c] ++ [32])) = false := by
  rw [show ([32] ++ [c] ++ [32] : Bs) = [32, c, 32] from rfl, hs]
  simp [h1]
 rw [this]
 show cutT L 9 i (i + 1) = _
 unfold cutT
 rw [show (L.drop i).take (i + 1 - i) = [c] from ht]
 simp
def opAfter (c : UInt8) (op : List Bool) : List Bool := bif c == 123 then false :: op else bif c == 125 then op.tail else op
/-- a sign of one byte -/
theorem next_sign (hK : 1 ≤ K) (h : L.drop i = c :: r) (h1 : blankB c = false) (h3 : (c == 47 || letterB c || digitB c || c == 34 || c == 39 || c == 96) = false) (h4 : (c == 125 && op.head?.getD false) = false)
 (hs : Lib.contains ([32, 123, 32, 125] ++ [32, 40, 32, 41, 32, 91, 32, 93, 32, 46, 32, 44, 32, 59, 32, 58, 32, 63, 32, 61, 32, 43, 32, 45, 32, 42, 32, 37, 32, 33, 32, 126, 32, 60, 32, 62, 32, 38, 32, 124, 32, 94, 32]) [32, c, 32] = true)
 (h2 : ∀ d, r.head? = some d → noSign c d = true) : nextK L K i op = some (.tok ⟨9, [c], i, (i : Int) + 1⟩ (i + 1) (opAfter c op)) := by
 simp only [Bool.or_eq_false_iff] at h3
 obtain ⟨⟨⟨⟨⟨a1, a2⟩, a3⟩, a4⟩, a5⟩, a6⟩ := h3
 obtain ⟨hc, hil, hr⟩ := drop_get h
 unfold nextK
 rw [blanks_at hK h h1 a1]
 dsimp only
 rw [show decide (i = L.length) = false by simp; omega]
 simp only [cond_false]
 rw [tokenK, hc]
 simp only [a2, a3, a4, a5, a6, h4, cond_false, Bool.or_false, Bool.false_or, sign_one h h1 hs h2]
 show some (Nx.tok _ ((i : Int) + 1).toNat _) = _
 unfold opAfter
 rw [show ((i : Int) + 1).toNat = i + 1 by omega]
 congr 2
 simp
/-- a word of one byte -/
theorem next_word (hK : 1 ≤ K) (h : L.drop i = c :: r) (h1 : letterB c = true) (h2 : ∀ d, r.head? = some d → (letterB d || digitB d) = false) (hb : (blankB c || c == 47 || reservedB [c]) = false) : nextK L K i op = some (.tok ⟨1, [c], i, (i : Int) + 1⟩ (i + 1) op) := by
 simp only [Bool.or_eq_false_iff] at hb
 obtain ⟨hc, hil, hr⟩ := drop_get h
 unfold nextK
 rw [blanks_at hK h hb.1.1 hb.1.2]
 dsimp only
 rw [show decide (i = L.length) = false by simp; omega]
 simp only [cond_false]
 rw [tokenK, hc]
 have hrun : runOf (fun c => letterB c || digitB c) L i = 1 := by
  unfold runOf
  rw [h, List.takeWhile_cons, if_pos (by rw [h1]; rfl)]
  cases r with
  | nil => rfl
  | cons d r => rw [List.takeWhile_cons, if_neg (by rw [h2 d rfl]; decide)]; rfl
 have hcut : cutT L 1 i (i + 1) = ⟨1, [c], i, (i : Int) + 1⟩ := by
  unfold cutT
  rw [h, Nat.add_sub_cancel_left]; simp
 have hw : wordT L i = ⟨1, [c], i, (i : Int) + 1⟩ := by
  unfold wordT
  dsimp only
  rw [hrun, hcut]
  simp only [hb.2, cond_false]
 simp only [h1, cond_true, hw]
 show some (Nx.tok _ ((i : Int) + 1).toNat _) = _
 rw [show ((i : Int) + 1).toNat = i + 1 by omega]
/-- a digit by itself -/
theorem next_digit (hK : 1 ≤ K) (h : L.drop i = c :: r) (h1 : digitB c = true) (h2 : ∀ d, r.head? = some d → (letterB d || digitB d) = false) (hb : (blankB c || c == 47 || letterB c) = false) : nextK L K i op = some (.tok ⟨3, [c], i, (i : Int) + 1⟩ (i + 1) op) := by
 simp only [Bool.or_eq_false_iff] at hb
 obtain ⟨hc, hil, hr⟩ := drop_get h
 unfold nextK
 rw [blanks_at hK h hb.1.1 hb.1.2]
 dsimp only
 rw [show decide (i = L.length) = false by simp; omega]
 simp only [cond_false]
 rw [tokenK, hc]
 have hrun : runOf digitB L i = 1 := by
  unfold runOf
  rw [h, List.takeWhile_cons, if_pos h1]
  cases r with
  | nil => rfl
  | cons d r =>
   have := h2 d rfl
   simp only [Bool.or_eq_false_iff] at this
   rw [List.takeWhile_cons, if_neg (by rw [this.2]; decide)]; rfl
 have htk : (L.drop i).take (i + 1 - i) = [c] := by rw [h, Nat.add_sub_cancel_left]; rfl
 have hla : letterAt L (i + 1) = false := by
  unfold letterAt
  have : L[i + 1]? = r.head? := by rw [← hr, List.head?_drop]
  rw [this]
  cases r with
  | nil => rfl
  | cons d r =>
   have := h2 d rfl
   simp only [Bool.or_eq_false_iff] at this
   exact this.1
 have hnum : ¬ numV [c] > 9007199254740991 := by
  unfold numV
  have := c.toNat_lt
  simp only [List.foldl_cons, List.foldl_nil]
  omega
 have hw : numberT L i = ⟨3, [c], i, (i : Int) + 1⟩ := by
  unfold numberT
  rw [hrun]
  dsimp only
  rw [htk, show decide (numV [c] > 9007199254740991) = false by simpa using hnum, show decide (i + 1 > i + 1) = false by simp, hla, Bool.and_false]
  simp only [cond_false]
  unfold cutT
  rw [htk]; simp
 simp only [hb.2, h1, cond_true, cond_false, hw]
 show some (Nx.tok _ ((i : Int) + 1).toNat _) = _
 rw [show ((i : Int) + 1).toNat = i + 1 by omega]
theorem next_end (hK : 1 ≤ K) (h : L.drop i = []) (hi : i ≤ L.length) : nextK L K i op = some (.tok ⟨10, [], i, i⟩ i op) ∧ i = L.length := by
 obtain ⟨h1, h2⟩ := blanks_end hK h hi
 unfold nextK
 rw [h1]
 dsimp only
 rw [show decide (i = L.length) = true by simpa using h2]
 exact ⟨rfl, h2⟩
theorem tokens_step {k n j : Nat} {t : Tk} {op' : List Bool} {acc : List Tk} (h : nextK L K i op = some (.tok t j op')) (hk : t.kind ≠ 10) (hn : n ≠ 8192) : tokensK L K (k + 1) n i op acc = tokensK L K k (n + 1) j op' (acc ++ [t]) := by
 rw [tokensK, h]
 dsimp only
 rw [show (n == 8192) = false by simpa using hn, show (t.kind == 10) = false by simpa using hk]
 rfl
theorem tokens_stop {k n : Nat} {t : Tk} {j : Nat} {op' : List Bool} {acc : List Tk} (h : nextK L K i op = some (.tok t j op')) (hk : t.kind = 10) : tokensK L K (k + 1) n i op acc = some (.inl (acc ++ [t])) := by
 rw [tokensK, h]
 dsimp only
 rw [show (t.kind == 10) = true by simpa using hk, show (t.kind != 10) = false by simp [hk], Bool.and_false]
 rfl
end
/-- a token that ends an expression -/
def Stop (f : Tk) : Prop := f.kind = 10 ∨ (f.kind = 9 ∧ (f.text = [41] ∨ f.text = [93] ∨ f.text = [125] ∨ f.text = [59] ∨ f.text = [44] ∨ f.text = [58]))
abbrev isOp (s : Bs) : Prop := s ≠ [41] ∧ s ≠ [93] ∧ s ≠ [125] ∧ s ≠ [59] ∧ s ≠ [44] ∧ s ≠ [58]
theorem stop_says {f : Tk} (h : Stop f) {s : Bs} (hs : isOp s) : saysB f s = false := by
 obtain ⟨h1, h2, h3, h4, h5, h6⟩ := hs
 unfold saysB
 rcases h with h | ⟨h, h0 | h0 | h0 | h0 | h0 | h0⟩
 · rw [h]; rfl
 all_goals
  rw [h, h0]
  show (true && _) = false
  rw [Bool.true_and]
  simpa using (fun e => by simp_all : ¬ (_ = s))
section
variable {f : Tk} {r : List Tk} {α β : Type}
theorem M_bind {α β : Type} {m : M α} {k : α → M β} {ts ts' : List Tk} {x : α} (h : m ts = some (.ok (x, ts'))) : (m >>= k) ts = k x ts' := by
 show M.bind m k ts = _
 unfold M.bind
 rw [h]
theorem is_stop (hf : Stop f) {s : Bs} (hs : isOp s) : isM s (f :: r) = some (.ok (false, f :: r)) := by
 show some (Except.ok (saysB f s, f :: r)) = _
 rw [stop_says hf hs]
theorem take_stop (hf : Stop f) {s : Bs} (hs : isOp s) : takeM s (f :: r) = some (.ok (false, f :: r)) := by
 unfold takeM
 rw [M_bind (is_stop hf hs)]
 rfl
theorem takeOne_stop (hf : Stop f) : ∀ {l : List Bs}, (∀ s ∈ l, isOp s) → takeOne l (f :: r) = some (.ok (none, f :: r))
 | [], _ => rfl
 | s :: l, h => by
  unfold takeOne
  rw [M_bind (take_stop hf (h s (by simp)))]
  exact takeOne_stop hf fun x hx => h x (by simp [hx])
theorem takeAny_stop (hf : Stop f) : ∀ {l : List Bs}, (∀ s ∈ l, isOp s) → takeAny l (f :: r) = some (.ok (false, f :: r))
 | [], _ => rfl
 | s :: l, h => by
  unfold takeAny
  rw [M_bind (take_stop hf (h s (by simp)))]
  exact takeAny_stop hf fun x hx => h x (by simp [hx])
variable {K n : Nat} {t : Tk} {l : List Tk} {x : PT}
theorem level_stop (hf : Stop f) {j : Nat} (hj : j ≤ 9) (hK : 1 ≤ K) (h : gr K n (.level (j + 1)) (t :: l) = some (.ok (x, f :: r))) : gr K (n + 1) (.level j) (t :: l) = some (.ok (x, f :: r)) := by
 show levelM K (gr K n) j (t :: l) = _
 unfold levelM
 obtain ⟨sl, hsl, hop⟩ : ∃ sl, sgn j = some sl ∧ ∀ s ∈ sl, isOp s := by
  match j, hj with
  | 0, _ => exact ⟨_, rfl, by decide⟩
  | 1, _ => exact ⟨_, rfl, by decide⟩
  | 2, _ => exact ⟨_, rfl, by decide⟩
  | 3, _ => exact ⟨_, rfl, by decide⟩
  | 4, _ => exact ⟨_, rfl, by decide⟩
  | 5, _ => exact ⟨_, rfl, by decide⟩
  | 6, _ => exact ⟨_, rfl, by decide⟩
  | 7, _ => exact ⟨_, rfl, by decide⟩
  | 8, _ => exact ⟨_, rfl, by decide⟩
  | 9, _ => exact ⟨_, rfl, by decide⟩
 rw [hsl]
 dsimp only
 rw [M_bind (m := nowM) (ts' := t :: l) (x := t) rfl, M_bind h]
 obtain ⟨k, rfl⟩ : ∃ k, K = k + 1 := ⟨K - 1, by omega⟩
 unfold againM
 rw [M_bind (takeOne_stop hf hop)]
 rfl
/-- an expression that is no more than what stands in front of its end -/
theorem expr_stop (hf : Stop f) (hK : 1 ≤ K) (ht : ∀ s ∈ [[33], [45], [126], [116, 121, 112, 101, 111, 102]], saysB t s = false) (ha : arrowM (t :: l) = some (.ok (false, t :: l))) (h : gr K n .postf (t :: l) = some (.ok (x, f :: r))) :
 gr K (n + 14) .expr (t :: l) = some (.ok (x, f :: r)) := by
 have h11 : gr K (n + 1) .unary (t :: l) = some (.ok (x, f :: r)) := by
  show unaryM (gr K n) (t :: l) = _
  unfold unaryM
  rw [M_bind (m := nowM) (ts' := t :: l) (x := t) rfl]
  have : takeAny [[33], [45], [126], [116, 121, 112, 101, 111, 102]] (t :: l) = some (.ok (false, t :: l)) := by
   have hh : ∀ (q : List Bs), (∀ s ∈ q, saysB t s = false) → takeAny q (t :: l) = some (.ok (false, t :: l)) := fun q => by
    induction q with
    | nil => exact fun _ => rfl
    | cons s q ih =>
     intro hq
     unfold takeAny
     have : takeM s (t :: l) = some (.ok (false, t :: l)) := by
      unfold takeM
      rw [M_bind (m := isM s) (ts' := t :: l) (x := false) (by show some (Except.ok (saysB t s, t :: l)) = _; rw [hq s (by simp)])]
      rfl
     rw [M_bind this]
     exact ih fun x hx => hq x (by simp [hx])
   exact hh _ ht
  rw [M_bind this]
  exact h
 have h10 : gr K (n + 2) (.level 10) (t :: l) = some (.ok (x, f :: r)) := h11
 have h0 := level_stop hf (j := 0) (by decide) hK (level_stop hf (j := 1) (by decide) hK (level_stop hf (j := 2) (by decide) hK (level_stop hf (j := 3) (by decide) hK (level_stop hf (j := 4) (by decide) hK
  (level_stop hf (j := 5) (by decide) hK (level_stop hf (j := 6) (by decide) hK (level_stop hf (j := 7) (by decide) hK (level_stop hf (j := 8) (by decide) hK (level_stop hf (j := 9) (by decide) hK h10)))))))))
 have hc : gr K (n + 13) .cond (t :: l) = some (.ok (x, f :: r)) := by
  show condM (gr K (n + 12)) (t :: l) = _
  unfold condM
  rw [M_bind (m := nowM) (ts' := t :: l) (x := t) rfl, M_bind h0, M_bind (take_stop hf (by decide))]
  rfl
 show exprM (gr K (n + 13)) (t :: l) = _
 unfold exprM
 rw [M_bind (m := nowM) (ts' := t :: l) (x := t) rfl, M_bind ha]
 show (gr K (n + 13) .cond >>= _) (t :: l) = _
 rw [M_bind hc, M_bind (m := nowM) (ts' := f :: r) (x := f) rfl, M_bind (takeAny_stop hf (by decide))]
 rfl
end
end Go.Proofs

namespace Go.Proofs
open Go.Px
def partB : Nat → Bs
 | 0 => [46, 98]
 | 1 => [91, 48, 93]
 | 2 => [40, 49, 41]
 | _ => [33]
def chainB (l : List Nat) : Bs := (l.map partB).flatten
def tk9 (c : UInt8) (i : Nat) : Tk := ⟨9, [c], i, (i : Int) + 1⟩
def tk1 (c : UInt8) (i : Nat) : Tk := ⟨1, [c], i, (i : Int) + 1⟩
def tk3 (c : UInt8) (i : Nat) : Tk := ⟨3, [c], i, (i : Int) + 1⟩
def ptk : Nat → Nat → List Tk
 | 0, i => [tk9 46 i, tk1 98 (i + 1)]
 | 1, i => [tk9 91 i, tk3 48 (i + 1), tk9 93 (i + 1 + 1)]
 | 2, i => [tk9 40 i, tk3 49 (i + 1), tk9 41 (i + 1 + 1)]
 | _, i => [tk9 33 i]
def chT : List Nat → Nat → List Tk
 | [], i => [⟨10, [], i, i⟩]
 | p :: l, i => ptk p i ++ chT l (i + (partB p).length)
theorem chain_head : ∀ {l : List Nat} {d : UInt8}, (chainB l).head? = some d → d ∈ ([46, 91, 40, 33] : List UInt8)
 | [], d, h => by cases h
 | 0 :: l, d, h => by cases h; decide
 | 1 :: l, d, h => by cases h; decide
 | 2 :: l, d, h => by cases h; decide
 | (p + 3) :: l, d, h => by cases h; decide
theorem head_all : ∀ d ∈ ([46, 91, 40, 33] : List UInt8), (letterB d || digitB d) = false ∧ noSign 93 d = true ∧ noSign 41 d = true ∧ noSign 33 d = true := by decide +kernel
section
variable {L : Bs} {K : Nat}
theorem ch_sign {c : UInt8} {r : Bs} {i n k : Nat} {acc : List Tk} (hK : 1 ≤ K) (h : L.drop i = c :: r) (hc : c ∈ ([46, 91, 93, 40, 41, 33] : List UInt8)) (h2 : ∀ d, r.head? = some d → noSign c d = true) (hn : n < 8192) :
 tokensK L K (k + 1) n i [] acc = tokensK L K k (n + 1) (i + 1) [] (acc ++ [tk9 c i]) := by
 have key : ∀ c ∈ ([46, 91, 93, 40, 41, 33] : List UInt8), blankB c = false ∧ (c == 47 || letterB c || digitB c || c == 34 || c == 39 || c == 96) = false ∧ (c == 125 && ([] : List Bool).head?.getD false) = false ∧
  Lib.contains ([32, 123, 32, 125] ++ [32, 40, 32, 41, 32, 91, 32, 93, 32, 46, 32, 44, 32, 59, 32, 58, 32, 63, 32, 61, 32, 43, 32, 45, 32, 42, 32, 37, 32, 33, 32, 126, 32, 60, 32, 62, 32, 38, 32, 124, 32, 94, 32]) [32, c, 32] = true ∧ opAfter c [] = [] := by decide +kernel
 obtain ⟨k1, k2, k3, k4, k5⟩ := key c hc
 have := next_sign (op := []) hK h k1 k2 k3 k4 h2
 rw [k5] at this
 exact tokens_step this (show (9 : Int) ≠ 10 by decide) (by omega)
theorem ch_word {r : Bs} {i n k : Nat} {acc : List Tk} (hK : 1 ≤ K) (c : UInt8) (hc : c = 97 ∨ c = 98) (h : L.drop i = c :: r) (h2 : ∀ d, r.head? = some d → (letterB d || digitB d) = false) (hn : n < 8192) :
 tokensK L K (k + 1) n i [] acc = tokensK L K k (n + 1) (i + 1) [] (acc ++ [tk1 c i]) := by
 have key : letterB c = true ∧ (blankB c || c == 47 || reservedB [c]) = false := by rcases hc with rfl | rfl <;> decide +kernel
 exact tokens_step (next_word hK h key.1 h2 key.2) (show (1 : Int) ≠ 10 by decide) (by omega)
theorem ch_digit {r : Bs} {i n k : Nat} {acc : List Tk} (hK : 1 ≤ K) (c : UInt8) (hc : c = 48 ∨ c = 49) (h : L.drop i = c :: r) (h2 : ∀ d, r.head? = some d → (letterB d || digitB d) = false) (hn : n < 8192) :
 tokensK L K (k + 1) n i [] acc = tokensK L K k (n + 1) (i + 1) [] (acc ++ [tk3 c i]) := by
 have key : digitB c = true ∧ (blankB c || c == 47 || letterB c) = false := by rcases hc with rfl | rfl <;> decide +kernel
 exact tokens_step (next_digit hK h key.1 h2 key.2) (show (3 : Int) ≠ 10 by decide) (by omega)
theorem chain_tokens (hK : 1 ≤ K) : ∀ (l : List Nat) (i n k : Nat) (acc : List Tk), L.drop i = chainB l → i ≤ L.length → 3 * l.length < k → n + 3 * l.length < 8192 → tokensK L K k n i [] acc = some (.inl (acc ++ chT l i))
 | [], i, n, k, acc, h, hi, hk, hn => by
  obtain ⟨k, rfl⟩ : ∃ k', k = k' + 1 := ⟨k - 1, by omega⟩
  exact tokens_stop (next_end hK h hi).1 rfl
 | p :: l, i, n, k, acc, h, hi, hk, hn => by
  simp only [List.length_cons] at hk hn
  obtain ⟨k, rfl⟩ : ∃ k', k = k' + 3 := ⟨k - 3, by omega⟩
  have hh : ∀ d, (chainB l).head? = some d → _ := fun d hd => head_all d (chain_head hd)
  match p, h with
  | 0, h =>
   have h : L.drop i = 46 :: 98 :: chainB l := h
   obtain ⟨_, h1, h2⟩ := drop_get h
   obtain ⟨_, h3, h4⟩ := drop_get h2
   rw [ch_sign hK h (by decide) (fun d hd => by cases hd; decide +kernel) (by omega), ch_word hK 98 (.inr rfl) h2 (fun d hd => (hh d hd).1) (by omega), chain_tokens hK l (i + 1 + 1) (n + 1 + 1) (k + 1) _ h4 (by omega) (by omega) (by omega)]
   simp only [chT, ptk, partB, List.append_assoc, List.cons_append, List.nil_append, List.length_cons, List.length_nil]
  | 1, h =>
   have h : L.drop i = 91 :: 48 :: 93 :: chainB l := h
   obtain ⟨_, h1, h2⟩ := drop_get h
   obtain ⟨_, h3, h4⟩ := drop_get h2
   obtain ⟨_, h5, h6⟩ := drop_get h4
   rw [ch_sign hK h (by decide) (fun d hd => by cases hd; decide +kernel) (by omega), ch_digit hK 48 (.inl rfl) h2 (fun d hd => by cases hd; decide +kernel) (by omega), ch_sign hK h4 (by decide) (fun d hd => (hh d hd).2.1) (by omega), chain_tokens hK l (i + 1 + 1 + 1) (n + 1 + 1 + 1) k _ h6 (by omega) (by omega) (by omega)]
   simp only [chT, ptk, partB, List.append_assoc, List.cons_append, List.nil_append, List.length_cons, List.length_nil]
  | 2, h =>
   have h : L.drop i = 40 :: 49 :: 41 :: chainB l := h
   obtain ⟨_, h1, h2⟩ := drop_get h
   obtain ⟨_, h3, h4⟩ := drop_get h2
   obtain ⟨_, h5, h6⟩ := drop_get h4
   rw [ch_sign hK h (by decide) (fun d hd => by cases hd; decide +kernel) (by omega), ch_digit hK 49 (.inr rfl) h2 (fun d hd => by cases hd; decide +kernel) (by omega), ch_sign hK h4 (by decide) (fun d hd => (hh d hd).2.2.1) (by omega), chain_tokens hK l (i + 1 + 1 + 1) (n + 1 + 1 + 1) k _ h6 (by omega) (by omega) (by omega)]
   simp only [chT, ptk, partB, List.append_assoc, List.cons_append, List.nil_append, List.length_cons, List.length_nil]
  | p + 3, h =>
   have h : L.drop i = 33 :: chainB l := h
   obtain ⟨_, h1, h2⟩ := drop_get h
   rw [ch_sign hK h (by decide) (fun d hd => (hh d hd).2.2.2) (by omega), chain_tokens hK l (i + 1) (n + 1) (k + 2) _ h2 (by omega) (by omega) (by omega)]
   simp only [chT, ptk, partB, List.append_assoc, List.cons_append, List.nil_append, List.length_cons, List.length_nil]
end
theorem chain_depth : ∀ (l : List Nat) (i j : Nat) (d : Int), (depthL 64 (chT l i) j 0 d (-1)).2 = -1
 | [], i, j, d => rfl
 | 0 :: l, i, j, d => chain_depth l (i + 2) (j + 1 + 1) (max (max d 0) 0)
 | 1 :: l, i, j, d => chain_depth l (i + 3) (j + 1 + 1 + 1) (max (max (max d 1) 1) 0)
 | 2 :: l, i, j, d => chain_depth l (i + 3) (j + 1 + 1 + 1) (max (max (max d 1) 1) 0)
 | (p + 3) :: l, i, j, d => chain_depth l (i + 1) (j + 1) (max d 0)
def wrapC (a : Int) : Nat → Nat → PT → PT
 | 0, i, x => .node 29 [98] 0 a [x]
 | 1, i, x => .node 30 [] 0 a [x, .node 10 [] 0 ((i + 1 : Nat) : Int) []]
 | 2, i, x => .node 27 [] 0 a [x, .node 2 [] 0 (i : Int) [], .node 2 [] 0 ((i + 1 : Nat) : Int) [.node 10 [] 1 ((i + 1 : Nat) : Int) []]]
 | _, i, x => .node 34 [] 0 a [x]
def bldC (a : Int) : List Nat → Nat → PT → PT
 | [], _, x => x
 | p :: l, i, x => bldC a l (i + (partB p).length) (wrapC a p i x)
theorem chT_cons : ∀ (l : List Nat) (i : Nat), ∃ u r, chT l i = u :: r
 | [], i => ⟨_, _, rfl⟩
 | 0 :: l, i => ⟨_, _, rfl⟩
 | 1 :: l, i => ⟨_, _, rfl⟩
 | 2 :: l, i => ⟨_, _, rfl⟩
 | (p + 3) :: l, i => ⟨_, _, rfl⟩
theorem parts_chain {n : Nat} {a : Int} : ∀ (l : List Nat) (i k : Nat) (x : PT), l.length < k → ∃ e : Int, partsM (gr KF (n + 30)) a k x (chT l i) = some (.ok (bldC a l i x, [⟨10, [], e, e⟩]))
 | [], i, k, x, hk => by
  obtain ⟨k, rfl⟩ : ∃ k', k = k' + 1 := ⟨k - 1, by omega⟩
  exact ⟨i, rfl⟩
 | p :: l, i, k, x, hk => by
  obtain ⟨k, rfl⟩ : ∃ k', k = k' + 1 := ⟨k - 1, by omega⟩
  simp only [List.length_cons] at hk
  obtain ⟨u, r, hu⟩ := chT_cons l (i + (partB p).length)
  obtain ⟨e, he⟩ := parts_chain (n := n) (a := a) l (i + (partB p).length) k (wrapC a p i x) (by omega)
  refine ⟨e, ?_⟩
  rw [hu] at he
  show partsM (gr KF (n + 30)) a (k + 1) x (ptk p i ++ chT l (i + (partB p).length)) = some (.ok (bldC a l (i + (partB p).length) (wrapC a p i x), _))
  rw [hu, ← he]
  clear he hu
  rcases p with _ | _ | _ | p
  · kernel_rfl
  · kernel_rfl
  · kernel_rfl
  · kernel_rfl
theorem chain_arrow : ∀ (l : List Nat) (t : Tk), t.kind = 1 → arrowM (t :: chT l 1) = some (.ok (false, t :: chT l 1))
 | l, ⟨kk, s, p, e⟩, h => by
  have h : kk = 1 := h
  subst h
  match l with
  | [] => rfl
  | 0 :: l => rfl
  | 1 :: l => rfl
  | 2 :: l => rfl
  | (p + 3) :: l => rfl
def chainX (l : List Nat) : PT := bldC 0 l 1 (.node 17 [97] 0 0 [])
theorem chain_expr {n : Nat} (l : List Nat) (hl : l.length ≤ 40) : ∃ e : Int, gr KF (n + 45) .expr (tk1 97 0 :: chT l 1) = some (.ok (chainX l, [⟨10, [], e, e⟩])) := by
 obtain ⟨u, r, hu⟩ := chT_cons l 1
 obtain ⟨e, he⟩ := parts_chain (n := n) (a := 0) l 1 KF (.node 17 [97] 0 0 []) (by unfold KF; omega)
 have hp : gr KF (n + 31) .postf (tk1 97 0 :: chT l 1) = some (.ok (chainX l, [⟨10, [], e, e⟩])) := by
  show postfM KF (gr KF (n + 30)) (tk1 97 0 :: chT l 1) = _
  have hq : gr KF (n + 30) .primary (tk1 97 0 :: chT l 1) = some (.ok (.node 17 [97] 0 0 [], chT l 1)) := by
   rw [hu]; kernel_rfl
  unfold postfM
  rw [M_bind (m := nowM) (x := tk1 97 0) (ts' := tk1 97 0 :: chT l 1) rfl, M_bind hq]
  exact he
 exact ⟨e, expr_stop (K := KF) (n := n + 31) (t := tk1 97 0) (l := chT l 1) (f := ⟨10, [], e, e⟩) (r := []) (.inl rfl) (by unfold KF; omega) (by decide) (chain_arrow l (tk1 97 0) rfl) hp⟩
theorem chain_whole (l : List Nat) (hl : l.length ≤ 40) : wholeB (97 :: chainB l) KF NF 1 = some (.inl (chainX l)) := by
 have hlen : (97 :: chainB l).length ≤ 1 + 3 * l.length := by
  have : ∀ l : List Nat, (chainB l).length ≤ 3 * l.length := fun l => by
   induction l with
   | nil => exact Nat.le_refl _
   | cons p l ih =>
    unfold chainB at ih ⊢
    rw [List.map_cons, List.flatten_cons, List.length_append, List.length_cons]
    have : (partB p).length ≤ 3 := by rcases p with _ | _ | _ | p <;> simp [partB]
    omega
  have := this l
  rw [List.length_cons]; omega
 have htk : tokensB (97 :: chainB l) KF = some (.inl (tk1 97 0 :: chT l 1)) := by
  unfold tokensB
  rw [show decide ((97 :: chainB l).length > 65536) = false by rw [decide_eq_false_iff_not]; omega]
  simp only [cond_false]
  unfold KF
  rw [show (20000 : Nat) = 19999 + 1 from rfl, ch_word (by omega) 97 (.inl rfl) (r := chainB l) rfl (fun d hd => (head_all d (chain_head hd)).1) (by omega)]
  exact chain_tokens (by omega) l 1 _ _ _ rfl (by simp) (by omega) (by omega)
 unfold wholeB
 rw [htk]
 dsimp only
 rw [show (depthL 64 (tk1 97 0 :: chT l 1) 0 0 0 (-1)).2 = -1 from chain_depth l 1 1 (max 0 0)]
 rw [show decide ((0 : Int) ≤ -1) = false by decide]
 simp only [cond_false]
 obtain ⟨e, hx⟩ := chain_expr (n := 399955) l hl
 rw [show 399955 + 45 = NF from rfl] at hx
 have hr : runM KF (gr KF NF) 1 (tk1 97 0 :: chT l 1) = some (.ok (chainX l, [⟨10, [], e, e⟩])) := by
  unfold runM
  show (gr KF NF .expr >>= _) _ = _
  rw [M_bind hx]
  rfl
 rw [hr]
def kindC : Nat → Int
 | 0 => 29
 | 1 => 30
 | 2 => 27
 | _ => 34
theorem chain_spine {R : List FN} {a : Int} : ∀ (l : List Nat) (i b : Nat) (x : PT), Emb R b (bldC a l i x) → Emb R (b + l.length) x ∧ ∀ j p, j < l.length → l[l.length - 1 - j]? = some p → ∃ f, R[b + j]? = some f ∧ f.kind = kindC p ∧ f.kids.head? = some ((b + j + 1 : Nat) : Int)
 | [], i, b, x, h => ⟨h, fun j p hj => by simp at hj⟩
 | p :: l, i, b, x, h => by
  obtain ⟨h1, h2⟩ := chain_spine l (i + (partB p).length) b (wrapC a p i x) h
  have h3 : ∃ f, R[b + l.length]? = some f ∧ f.kind = kindC p ∧ f.kids.head? = some ((b + l.length + 1 : Nat) : Int) ∧ Emb R (b + l.length + 1) x := by
   match p, h1 with
   | 0, h1 => obtain ⟨q1, q2⟩ := emb_node h1; exact ⟨_, q1, rfl, rfl, (embs_cons q2).1⟩
   | 1, h1 => obtain ⟨q1, q2⟩ := emb_node h1; exact ⟨_, q1, rfl, rfl, (embs_cons q2).1⟩
   | 2, h1 => obtain ⟨q1, q2⟩ := emb_node h1; exact ⟨_, q1, rfl, rfl, (embs_cons q2).1⟩
   | p + 3, h1 => obtain ⟨q1, q2⟩ := emb_node h1; exact ⟨_, q1, rfl, rfl, (embs_cons q2).1⟩
  obtain ⟨f, f1, f2, f3, f4⟩ := h3
  refine ⟨by rw [List.length_cons, ← Nat.add_assoc]; exact f4, fun j q hj hq => ?_⟩
  rw [List.length_cons] at hj hq
  by_cases hjl : j = l.length
  · subst hjl
    rw [show l.length + 1 - 1 - l.length = 0 by omega] at hq
    obtain rfl : p = q := by simpa using hq
    exact ⟨f, f1, f2, f3⟩
  · refine h2 j q (by omega) ?_
    rw [show l.length + 1 - 1 - j = (l.length - 1 - j) + 1 by omega, List.getElem?_cons_succ] at hq
    exact hq
end Go.Proofs

namespace Go.Proofs
open Go.Px Tryz
theorem star_at {α β : Type} {A : α → β → HP} {Γ : List HP} {a : α} {b : β} : ∀ {xs : List α} {bs : List β} {j : Nat}, xs[j]? = some a → bs[j]? = some b → Ent (Star A xs bs :: Γ) (A a b :: Γ)
 | [], _, _, h, _ => by simp at h
 | _ :: _, [], _, _, h => by simp at h
 | x :: xs, y :: bs, 0, h, h' => by
  simp only [List.getElem?_cons_zero, Option.some.injEq] at h h'
  subst h h'
  exact fun h s => sep_tail (fun h s => sep_drop s) (ent_all [A x y, Star A xs bs] Γ h s)
 | x :: xs, y :: bs, j + 1, h, h' => by
  simp only [List.getElem?_cons_succ] at h h'
  exact fun h9 s => star_at h h' h9 (sep_drop (ent_all [A x y, Star A xs bs] Γ h9 s))
theorem row_all {f : FN} {s : SV} {sp : List Value} : ∀ {fs : List FN} {ss : List SV} {j : Nat}, fs[j]? = some f → ss[j]? = some s → (((nrows fs ss).flatten ++ sp).drop (j * 5)).take 5 = nrow f s
 | [], _, _, h, _ => by simp at h
 | _ :: _, [], _, _, h => by simp at h
 | f0 :: fs, s0 :: ss, 0, h, h' => by
  simp only [List.getElem?_cons_zero, Option.some.injEq] at h h'
  subst h h'
  rfl
 | f0 :: fs, s0 :: ss, j + 1, h, h' => by
  simp only [List.getElem?_cons_succ] at h h'
  have h9 := row_all (sp := sp) h h'
  rw [← h9]
  show ((((nrow f0 s0 :: nrows fs ss).flatten) ++ sp).drop ((j + 1) * 5)).take 5 = _
  rw [List.flatten_cons, List.append_assoc, show (j + 1) * 5 = (nrow f0 s0).length + j * 5 by simp [nrow]; omega, List.drop_append, List.drop_eq_nil_of_le (by omega), List.nil_append, Nat.add_sub_cancel_left]
theorem row_kids {fs : List FN} {ss : List SV} {j o : Nat} {f : FN} {s : SV} {sp : List Value} (h : fs[j]? = some f) (hs : ss[j]? = some s) (ho : o = j * 5 + 3) : ((nrows fs ss).flatten ++ sp)[o]? = some (slV s) := by subst ho; exact row_get (k := 3) (by decide) h hs rfl
theorem ka_open {Γ Γ' : List HP} {fs : List FN} {ss : List SV} {j : Nat} {f : FN} {s : SV} (hs : Sel Γ (Star KA fs ss) Γ') (hf : fs[j]? = some f) (hj : ss[j]? = some s) : ∀ h, sep Γ h → s.2.1 = f.kids.length ∧ (f.kids ≠ [] → ∃ kb kc, s = (some ⟨kb, 0, none⟩, f.kids.length, kc)) := fun h q => by
 obtain ⟨_, _, _, p, _⟩ := star_at hf hj h (hs.ent h q)
 obtain ⟨s1, s2, s3⟩ := s
 obtain ⟨_, ⟨e, h0⟩ | ⟨b, cap, sp, e, _⟩⟩ := p
 · have e : Value.slice s1 s2 s3 = .slice none 0 0 := e
   cases e
   exact ⟨h0.symm, fun h => absurd (List.eq_nil_of_length_eq_zero h0) h⟩
 · have e : Value.slice s1 s2 s3 = .slice (some ⟨b, 0, none⟩) f.kids.length cap := e
   cases e
   exact ⟨rfl, fun _ => ⟨b, _, rfl⟩⟩
section
variable {n : Nat} {ρ : Env} {Γ Γ' : List HP} {d : Option Tmp} {ty : TypeId} {pos : String} {af : Array Edge} {gd : Option (Nat × Bool)} {fs : List FN} {ss : List SV} {j : Nat} {f : FN} {s : SV}
theorem rd_row {x : Operand} {T : TypeId} {b o : Nat} {E : TypeId} {sp : List Value} (hA : ∀ w, (isAgg T).run prog w = .ok true w) (hS : ∀ w, (sizeOf T).run prog w = .ok 5 w) (hx : evE n ρ x = .pointer (some ⟨b, o, none⟩))
 (hs : Sel Γ (Cl b E ((nrows fs ss).flatten ++ sp)) Γ') (hf : fs[j]? = some f) (hj : ss[j]? = some s) (ho : o = j * 5) : Rd prog n ρ ⟨d, .load T x, ty, pos, af, gd⟩ Γ (.agg #[.int .i64 f.kind, .string (bs f.text), .int .i64 f.num, slV s, .int .i64 f.at_]) := by
 subst ho
 exact rd_loadN (vs := nrow f s) hA hS hx hs (row_all hf hj) rfl
theorem rd_lenKids {x : Operand} {T E : TypeId} (hU : ∀ w, (underlying T).run prog w = .ok (.slice E) w) (hx : evE n ρ x = slV s) (hs : Sel Γ (Star KA fs ss) Γ') (hf : fs[j]? = some f) (hj : ss[j]? = some s) :
 Rd prog n ρ ⟨d, .call ⟨.builtin .len, #[x], #[T]⟩, ty, pos, af, gd⟩ Γ (.int .i64 ((f.kids.length : Nat) : Int)) := fun w q =>
 rd_lenSV hU hx (congrArg Int.ofNat (ka_open hs hf hj _ q).1) w q
theorem rd_idxK {x y : Operand} {T E : TypeId} {kb k len cap : Nat} {i : Int} {ik : IntKind} (hU : ∀ w, (underlying T).run prog w = .ok (.slice E) w) (hS : ∀ w, (sizeOf E).run prog w = .ok 1 w)
 (hx : evE n ρ x = slV s) (hk : s = (some ⟨kb, 0, none⟩, len, cap)) (hy : evE n ρ y = .int ik i) (hi : i = (k : Int)) (h1 : k < len) : Rd prog n ρ ⟨d, .indexAddr T x y, ty, pos, af, gd⟩ Γ (.pointer (some ⟨kb, k, none⟩)) := by
 subst hk
 exact rd_idxN hU hS hx hy hi h1 (Nat.mul_one k)
theorem rd_ldKid {x : Operand} {T : TypeId} {kb k m cap : Nat} {c : Int} (hA : ∀ w, (isAgg T).run prog w = .ok false w) (hx : evE n ρ x = .pointer (some ⟨kb, k, none⟩)) (hs : Sel Γ (Star KA fs ss) Γ') (hf : fs[j]? = some f) (hj : ss[j]? = some s)
 (hk : s = (some ⟨kb, 0, none⟩, m, cap)) (hc : f.kids[k]? = some c) : Rd prog n ρ ⟨d, .load T x, ty, pos, af, gd⟩ Γ (.int .i64 c) := fun w q => by
 subst hk
 obtain ⟨h1, h2, d1, p, q2⟩ := star_at hf hj _ (hs.ent _ q)
 obtain ⟨_, ⟨e, h0⟩ | ⟨b, cp, sp, e, _, _, _, p⟩⟩ := p
 · cases e
 · cases e
   exact rd_load1' (l := f.kids.map (.int .i64 ·) ++ sp) hA hx .zero (by
    have := (List.getElem?_eq_some_iff.1 hc).1
    rw [List.getElem?_append_left (by simpa using this), List.getElem?_map, hc]; rfl) w ⟨h1, h2, d1, p, q2⟩
/-- len of a slice of bytes that is read -/
theorem rb_len {l : Bs} {rx : RX} {F : List HP} {w : World} {sv : SV} (s : Sat (RB (slV sv) l rx :: F) w) : (sv.2.1 : Int) = ((l.length : Nat) : Int) := by
 obtain ⟨s1, s2, s3⟩ := sv
 rcases rb_cases s with ⟨_, e, rfl, _⟩ | ⟨a, cap, _, e, rfl, _⟩ | ⟨b, o, cap, c, T, fz, _, e, _, _⟩
 · have e : Value.slice s1 s2 s3 = _ := e
   cases e; rfl
 · have e : Value.slice s1 s2 s3 = _ := e
   cases e; rfl
 · have e : Value.slice s1 s2 s3 = _ := e
   cases e; rfl
end
end Go.Proofs

namespace Go.Proofs
open Go.Px Tryz
/-- a slice of ints that is read: it may lie in the variable that the library keeps -/
def RI (gx : GX) (v : Value) (l : List Int) : Bool × RX → HP
 | (true, _) => Pr (v = .slice (some ⟨0, 0, none⟩) 1 1 ∧ l = [gx.1])
 | (false, none) => Pr (l = [] ∧ (v = .slice none 0 0 ∨ ∃ a cap, v = .slice (some a) 0 cap))
 | (false, some (b, ob)) => fun h => Blk b ob h ∧ ∃ o cap c T fz, ob = .cells c T fz ∧ v = .slice (some ⟨b, o, none⟩) l.length cap ∧ (c.toList.drop o).take l.length = l.map (.int .i64 ·)
/-- where the i-th lies -/
def adrI (sv : SV) (i : Nat) : Value := match sv.1 with
 | some a => .pointer (some ⟨a.block, a.off + i, none⟩)
 | none => .nilFunc
theorem ri_slice {gx : GX} {sv : SV} {l : List Int} {ri : Bool × RX} {F : List HP} {w : World} (s : Sat (RI gx (slV sv) l ri :: F) w) : sv.2.1 = l.length ∧ (l ≠ [] → ∃ b o, sv.1 = some ⟨b, o, none⟩) := by
 obtain ⟨s1, s2, s3⟩ := sv
 obtain ⟨h1, h2, d, p, q⟩ := s
 rcases ri with ⟨_ | _, rx⟩
 · rcases rx with _ | ⟨b, ob⟩
   · obtain ⟨rfl, e | ⟨a, cap, e⟩⟩ := p
     · have e : Value.slice s1 s2 s3 = _ := e
       cases e; exact ⟨rfl, fun h => absurd rfl h⟩
     · have e : Value.slice s1 s2 s3 = _ := e
       cases e; exact ⟨rfl, fun h => absurd rfl h⟩
   · obtain ⟨p, o, cap, c, T, fz, rfl, e, he⟩ := p
     have e : Value.slice s1 s2 s3 = _ := e
     cases e; exact ⟨rfl, fun _ => ⟨b, o, rfl⟩⟩
 · obtain ⟨e, rfl⟩ := p
   have e : Value.slice s1 s2 s3 = _ := e
   cases e; exact ⟨rfl, fun _ => ⟨0, 0, rfl⟩⟩
theorem bin_and3 {T : TypeId} (z : Int) : binOp .and T (.int .i64 z) (.int .i64 3) = pure (.int .i64 (((z % 4).toNat : Nat) : Int)) := by
 rw [binOp_and]
 unfold Op.intBits
 have e : (BitVec.ofInt IntKind.i64.bits z &&& BitVec.ofInt IntKind.i64.bits 3).toNat = (z % 4).toNat := by
  rw [BitVec.toNat_and, BitVec.toNat_ofInt, BitVec.toNat_ofInt]
  show ((z % (2 ^ 64 : Nat)).toNat &&& (2 ^ 2 - 1)) = _
  rw [Nat.and_two_pow_sub_one_eq_mod]
  omega
 simp only [e]
 congr 2
 have h4 : (z % 4).toNat < 4 := by omega
 exact IntWalk.i64_in _ (by omega)
section
variable {n : Nat} {ρ : Env} {Γ Γ' : List HP} {d : Option Tmp} {ty : TypeId} {pos : String} {af : Array Edge} {gd : Option (Nat × Bool)} {gx : GX} {sv : SV} {l : List Int} {ri : Bool × RX}
theorem rd_idxI {x y : Operand} {T E : TypeId} {i : Nat} {k : Int} {ik : IntKind} (hU : ∀ w, (underlying T).run prog w = .ok (.slice E) w) (hS : ∀ w, (sizeOf E).run prog w = .ok 1 w)
 (hx : evE n ρ x = slV sv) (hy : evE n ρ y = .int ik k) (hk : k = (i : Int)) (hi : i < l.length) (hl : sv.2.1 = l.length) (hb : ∃ b o, sv.1 = some ⟨b, o, none⟩) : Rd prog n ρ ⟨d, .indexAddr T x y, ty, pos, af, gd⟩ Γ (adrI sv i) := by
 obtain ⟨s1, s2, s3⟩ := sv
 obtain ⟨b, o, rfl⟩ := hb
 subst hk
 have hl : s2 = l.length := hl
 subst hl
 have := rd_indexAddr (P := prog) (d := d) (ty := ty) (pos := pos) (af := af) (gd := gd) (Γ := Γ) hU hS hx hy (by omega) (by omega)
 simpa [Addr.add, adrI] using this
theorem rd_ldI {x : Operand} {T : TypeId} {i : Nat} {z : Int} (hA : ∀ w, (isAgg T).run prog w = .ok false w) (hx : evE n ρ x = adrI sv i) (hs : Sels Γ [RI gx (slV sv) l ri, (GMx gx)] Γ') (hz : l[i]? = some z) :
 Rd prog n ρ ⟨d, .load T x, ty, pos, af, gd⟩ Γ (.int .i64 z) := fun w q => by
 have q := q.mono hs.ent
 have hi := (List.getElem?_eq_some_iff.1 hz).1
 obtain ⟨s1, s2, s3⟩ := sv
 rcases ri with ⟨_ | _, rx⟩
 · rcases rx with _ | ⟨b, ob⟩
   · obtain ⟨h1, h2, d9, p, q⟩ := q
     obtain ⟨rfl, _⟩ := p
     simp at hi
   · obtain ⟨h1, h2, d9, p, q⟩ := q
     obtain ⟨p, o, cap, c, U, fz, rfl, e, he⟩ := p
     have e : Value.slice s1 s2 s3 = _ := e
     cases e
     have q : Sat (Blk b (.cells c U fz) :: (GMx gx) :: Γ') w := ⟨h1, h2, d9, p, q⟩
     refine rd_load1 (c := c) (E := U) (fz := fz) (v := .int .i64 z) (b := b) (o := o + i) hA hx .zero ?_ w q
     have h3 : ((c.toList.drop o).take l.length)[i]? = (l.map (Value.int .i64 ·))[i]? := by rw [he]
     rw [List.getElem?_take_of_lt hi, List.getElem?_drop, List.getElem?_map, hz, Array.getElem?_toList] at h3
     exact h3
 · obtain ⟨h1, h2, d9, p, q2⟩ := id q
   obtain ⟨e, rfl⟩ := p
   have e : Value.slice s1 s2 s3 = _ := e
   cases e
   have q : Sat ((GMx gx) :: Γ') w := sep_drop q
   obtain rfl : i = 0 := by simpa using hi
   obtain rfl : gx.1 = z := by simpa using hz
   exact rd_load1 (v := .int .i64 gx.1) (b := 0) (o := 0) hA hx .zero rfl w q
end
end Go.Proofs

namespace Go.Proofs
open Go.Px Tryz
section
variable {pb tb cap K : Nat} {L : List Tk} {g : NT → M PT} {gx : GX} {rx : RX}
def pidx (l : List Int) : List Nat := l.map fun z => (z % 4).toNat
theorem chain_len (l : List Int) : (chainB (pidx l)).length ≤ 3 * l.length := by
 induction l with
 | nil => exact Nat.le_refl _
 | cons z l ih =>
  unfold chainB pidx at ih ⊢
  rw [List.map_cons, List.map_cons, List.flatten_cons, List.length_append, List.length_cons]
  have : (partB (z % 4).toNat).length ≤ 3 := by rcases (z % 4).toNat with _ | _ | _ | p <;> simp [partB]
  omega
theorem chain_snoc {l : List Int} {i p : Nat} {z : Int} (h : l[i]? = some z) (hp : (z % 4).toNat = p) : (97 :: chainB (pidx (l.take i))) ++ partB p = 97 :: chainB (pidx (l.take (i + 1))) := by
 subst hp
 rw [List.take_add_one, h]
 simp [chainB, pidx]
theorem chain_law (l : List Int) (hl : l.length ≤ 40) : ∃ fs, laidB (97 :: chainB (pidx l)) 1 = some fs ∧ l.length < fs.length ∧ fs.length ≤ 200000 ∧ (∀ f ∈ fs, f.kids.length ≤ 200000) ∧
 (∀ j z, j < l.length → l[l.length - 1 - j]? = some z → ∃ f, fs[j]? = some f ∧ f.kind = kindC (z % 4).toNat ∧ f.kids.head? = some ((j + 1 : Nat) : Int)) ∧ ∃ f, fs[l.length]? = some f ∧ f.kind = 17 := by
 have hp : (pidx l).length = l.length := by simp [pidx]
 have hw := chain_whole (pidx l) (by omega)
 have hsz : (chainX (pidx l)).size ≤ 200000 := by
  obtain ⟨r, h1, h2⟩ := whole_tot (l := 97 :: chainB (pidx l)) (kind := 1) (by have := chain_len l; simp only [List.length_cons]; omega)
  rw [hw] at h1
  cases h1
  exact h2 _ rfl
 have hs := chain_spine (R := lay (chainX (pidx l))) (a := 0) (pidx l) 1 0 (.node 17 [97] 0 0 []) (emb_lay _)
 rw [hp, Nat.zero_add] at hs
 have h17 := (emb_node hs.1).1
 refine ⟨lay (chainX (pidx l)), by unfold laidB; rw [hw], (List.getElem?_eq_some_iff.1 h17).1, by rw [lay_len]; exact hsz, fun f hf => Nat.le_trans (lay_kids _ f hf) hsz, fun j z hj hz => ?_, _, h17, rfl⟩
 have := hs.2 j (z % 4).toNat hj (by unfold pidx; rw [List.getElem?_map, hz]; rfl)
 rw [Nat.zero_add] at this
 exact this
theorem parts_get {p : Nat} (h : p < 4) : ([Tx [46, 98], Tx [91, 48, 93], Tx [40, 49, 41], Tx [33]] : List Value)[p]? = some (Tx (partB p)) := by
 rcases p with _ | _ | _ | _ | p
 · rfl
 · rfl
 · rfl
 · rfl
 · omega
theorem kinds_get {p : Nat} (h : p < 4) : ([Iv 29, Iv 30, Iv 27, Iv 34] : List Value)[p]? = some (Iv (kindC p)) := by
 rcases p with _ | _ | _ | _ | p
 · rfl
 · rfl
 · rfl
 · rfl
 · omega
theorem c_chains {sv : SV} {l : List Int} {ri : Bool × RX} (hsl : sv.2.1 = l.length) (hsb0 : l ≠ [] → ∃ b o, sv.1 = some ⟨b, o, none⟩) : ∀ F w, Sat ([RI gx (slV sv) l ri, (GMx gx)] ++ F) w → Calls prog 9 [slV sv].toArray w fun e w' => e = .returned (.bool true) ∧ Sat ([RI gx (slV sv) l ri, (GMx gx)] ++ F) w' := by
 intro F
 refine calls_of_WC (fn := f9) func9 rfl rfl (Sr (Av (.bool false) (Nz (Mv (slV sv) (WL_rd (rd_lenSV (s := sv) runUnderlying37 rfl (congrArg Int.ofNat hsl)) (Bo (Iv ((l.length : Nat) : Int)) (Iv 40) (.bool (decide (((l.length : Nat) : Int) > 40))) eqg_int (binOp_gtr _ _ _ _) (Nt ?_)))))))
 cases hb1 : (decide (((l.length : Nat) : Int) > 40))
 · have hl40 : l.length ≤ 40 := by have := of_decide_eq_false hb1; omega
   refine Fx (Av (Tx [97]) (Ny (Bl 9 [Tx [46, 98], Tx [91, 48, 93], Tx [40, 49, 41], Tx [33]] (bs40_4 _ _ _ _ rfl rfl rfl rfl ) fun b2 => Av (Sl b2 4 4) (Ny (Bl 3 [Iv 29, Iv 30, Iv 27, Iv 34] (bs37_4 _ _ _ _ rfl rfl rfl rfl ) fun b3 => Av (Sl b3 4 4) (Nz (Av (Iv 0) (Nt (WC_block (WC_loopF (α := Nat) (fun x => x ≤ l.length) (fun x => [(0, slV sv), (3, .string (bs (97 :: chainB (pidx (l.take x))))), (4, Sl b2 4 4), (5, Sl b3 4 4), (6, Iv ((x : Nat) : Int))]) (fun x => Cl b3 3 [Iv 29, Iv 30, Iv 27, Iv 34] :: Cl b2 9 [Tx [46, 98], Tx [91, 48, 93], Tx [40, 49, 41], Tx [33]] :: RI gx (slV sv) l ri :: (GMx gx) :: F) (fun x => l.length - x) 0 (show 0 ≤ l.length from (Nat.zero_le _)) ⟨rfl, rfl, rfl, rfl, rfl, trivial⟩ (E4 Z0 Z0 Z0 Z0) ?_))))))))))
   rintro i σ hpre
   replace hpre : i ≤ l.length := hpre
   show WC prog _ _ _ (upds σ [(0, slV sv), (3, .string (bs (97 :: chainB (pidx (l.take i))))), (4, Sl b2 4 4), (5, Sl b3 4 4), (6, Iv ((i : Nat) : Int))]) _ (Cl b3 3 [Iv 29, Iv 30, Iv 27, Iv 34] :: Cl b2 9 [Tx [46, 98], Tx [91, 48, 93], Tx [40, 49, 41], Tx [33]] :: RI gx (slV sv) l ri :: (GMx gx) :: F)
   refine Sz (Mv (Iv ((i : Nat) : Int)) (Mv (slV sv) (WL_rd (rd_lenSV (s := sv) runUnderlying37 rfl (congrArg Int.ofNat hsl)) (Bo (Iv ((i : Nat) : Int)) (Iv ((l.length : Nat) : Int)) (.bool (decide (((i : Nat) : Int) < ((l.length : Nat) : Int)))) eqg_int (binOp_lss _ _ _ _) (Nt ?_)))))
   cases hb4 : (decide (((i : Nat) : Int) < ((l.length : Nat) : Int)))
   · have hil : l.take i = l := by have := of_decide_eq_false hb4; exact List.take_of_length_le (by omega)
     have hcl := chain_len (l.take i)
     rw [List.length_take] at hcl
     have htl : (97 :: chainB (pidx (l.take i))).length ≤ 2000 := by simp only [List.length_cons]; omega
     obtain ⟨fs, hfs, hfl1, hfl2, hfk, hsp, ⟨g0, hg0, hg17⟩⟩ := chain_law l hl40
     rw [← hil] at hfs
     refine WC_false rfl (WC_exit (At_thenX (At_loopX (At_blockX (At_then (Sr (Mv (.string (bs (97 :: chainB (pidx (l.take i))))) (WL_ef (ef_strBytes (s := (97 :: chainB (pidx (l.take i)))) rfl) fun y5 => WL_callX (α := { y : Nd // y.ss.length = fs.length ∧ fs.length ≤ y.cap }) (Δ0 := [RB (slV (some ⟨y5.1, 0, none⟩, (97 :: chainB (pidx (l.take i))).length, y5.2)) (97 :: chainB (pidx (l.take i))) (sbO y5.1 y5.2 (97 :: chainB (pidx (l.take i)))), (GMx gx)]) (Δ := fun y6 => [NLo fs y6.1, Star KA fs y6.1.ss, RB (slV (some ⟨y5.1, 0, none⟩, (97 :: chainB (pidx (l.take i))).length, y5.2)) (97 :: chainB (pidx (l.take i))) (sbO y5.1 y5.2 (97 :: chainB (pidx (l.take i)))), (GMx gx)]) (v := fun y6 => .tuple #[.agg #[Sl y6.1.b fs.length y6.1.cap], Iv 0, Iv 0]) call22 rfl (c_parsedF (sv := (some ⟨y5.1, 0, none⟩, (97 :: chainB (pidx (l.take i))).length, y5.2)) (kind := 1) (fs := fs) (by decide) htl hfs) (K2 Z0 Z3) fun y6 => Mv (.tuple #[.agg #[Sl y6.1.b fs.length y6.1.cap], Iv 0, Iv 0]) (Xt (.agg #[Sl y6.1.b fs.length y6.1.cap]) (Xt (Iv 0) (Xt (Iv 0) (WL_ef (ef_alloc (l := [.slice none 0 0]) zeroValue26 rfl) fun b7 => Sa b7 0 [Sl y6.1.b fs.length y6.1.cap] sizeOf26 Z0 (.put .done) (Av (Iv 0) (Av (Iv 0) (Nz (Mv (Iv 0) (Bo (Iv 0) (Iv 0) (.bool false) eqg_int (by rw [binOp_neq]; rfl) (Nt (Fx (Av (Iv 0) (Nz (Mv (slV sv) (WL_rd (rd_lenSV (s := sv) runUnderlying37 rfl (congrArg Int.ofNat hsl)) (Bo (Iv ((l.length : Nat) : Int)) (Iv 1) (Iv (((l.length : Nat) : Int) - 1)) eqg_int (bin_sub (by omega) (by omega)) (Av (Iv (((l.length : Nat) : Int) - 1)) (Nt (WC_block (WC_loopF (α := Nat) (fun x => x ≤ l.length) (fun x => [(0, slV sv), (5, Sl b3 4 4), (7, ptr b7), (10, Iv ((x : Nat) : Int)), (11, Iv (((l.length : Nat) : Int) - 1 - ((x : Nat) : Int)))]) (fun x => Cl b7 26 [Sl y6.1.b fs.length y6.1.cap] :: NLo fs y6.1 :: Star KA fs y6.1.ss :: RB (slV (some ⟨y5.1, 0, none⟩, (97 :: chainB (pidx (l.take i))).length, y5.2)) (97 :: chainB (pidx (l.take i))) (sbO y5.1 y5.2 (97 :: chainB (pidx (l.take i)))) :: (GMx gx) :: Cl b3 3 [Iv 29, Iv 30, Iv 27, Iv 34] :: Cl b2 9 [Tx [46, 98], Tx [91, 48, 93], Tx [40, 49, 41], Tx [33]] :: RI gx (slV sv) l ri :: F) (fun x => l.length - x) 0 (show 0 ≤ l.length from (Nat.zero_le _)) ⟨rfl, rfl, rfl, rfl, congrArg (Value.int .i64) (by omega), trivial⟩ (En Z0 (En Z0 (En Z0 (En Z0 (E4 Z0 Z0 Z0 Z0))))) ?_))))))))))))))))))))))))))))
     rintro j σ hpre
     replace hpre : j ≤ l.length := hpre
     show WC prog _ _ _ (upds σ [(0, slV sv), (5, Sl b3 4 4), (7, ptr b7), (10, Iv ((j : Nat) : Int)), (11, Iv (((l.length : Nat) : Int) - 1 - ((j : Nat) : Int)))]) _ (Cl b7 26 [Sl y6.1.b fs.length y6.1.cap] :: NLo fs y6.1 :: Star KA fs y6.1.ss :: RB (slV (some ⟨y5.1, 0, none⟩, (97 :: chainB (pidx (l.take i))).length, y5.2)) (97 :: chainB (pidx (l.take i))) (sbO y5.1 y5.2 (97 :: chainB (pidx (l.take i)))) :: (GMx gx) :: Cl b3 3 [Iv 29, Iv 30, Iv 27, Iv 34] :: Cl b2 9 [Tx [46, 98], Tx [91, 48, 93], Tx [40, 49, 41], Tx [33]] :: RI gx (slV sv) l ri :: F)
     refine Sz (Mv (Iv (((l.length : Nat) : Int) - 1 - ((j : Nat) : Int))) (Bo (Iv (((l.length : Nat) : Int) - 1 - ((j : Nat) : Int))) (Iv 0) (.bool (decide ((((l.length : Nat) : Int) - 1 - ((j : Nat) : Int)) ≥ 0))) eqg_int (binOp_geq _ _ _ _) (Nt ?_)))
     cases hb8 : (decide ((((l.length : Nat) : Int) - 1 - ((j : Nat) : Int)) ≥ 0))
     · have hjl : j = l.length := by have := of_decide_eq_false hb8; omega
       rw [← hjl] at hg0
       have hjf := (List.getElem?_eq_some_iff.1 hg0).1
       obtain ⟨s, hs⟩ := row_some y6.2.1 hg0
       refine WC_false rfl (WC_exit (At_thenX (At_loopX (At_blockX (At_then (Sr (Mv (Iv ((j : Nat) : Int)) (Bo (Iv ((j : Nat) : Int)) (Iv 0) (.bool true) eqg_int (by rw [binOp_geq]; rw [decide_eq_true (by omega)]) (Mv (.bool true) (Ta true 96 (Mv (Iv ((j : Nat) : Int)) (Ta true 96 (Fa b7 0 fa26_0 (Ta true 96 (Lo b7 0 (Sl y6.1.b fs.length y6.1.cap) isAgg24 Z0 rfl (Ta true 96 (WL_rd (rd_lenSV (s := (some ⟨y6.1.b, 0, none⟩, fs.length, y6.1.cap)) runUnderlying24 rfl rfl) (Ta true 96 (Bo (Iv ((j : Nat) : Int)) (Iv ((fs.length : Nat) : Int)) (.bool true) eqg_int (by rw [binOp_lss]; rw [decide_eq_true (by omega)]) (Pk true (Mv (.bool true) (Ta true 103 (Fa b7 0 fa26_0 (Ta true 103 (Lo b7 0 (Sl y6.1.b fs.length y6.1.cap) isAgg24 Z0 rfl (Ta true 103 (Mv (Iv ((j : Nat) : Int)) (Ta true 103 (WL_rd (rd_idxN (j := j) runUnderlying24 sizeOf39 rfl rfl (rfl) (hjf) rfl) (Ta true 103 (Fa y6.1.b (j * 5) fa39_0 (Ta true 103 (Lo y6.1.b (j * 5) (Iv g0.kind) isAgg3 Z1 (row_kind (j := j) (f := g0) y6.2.1 hg0 (by first | rfl | omega)) (Ta true 103 (Bo (Iv g0.kind) (Iv 17) (.bool true) eqg_int (by rw [binOp_eql]; rw [beq_iff_eq.2 hg17]) (Pk true (Mv (.bool true) (Ta true 112 (WL_callQ (Δ := [(GMx gx)]) (v := .bool true) call21 rfl (c_known) (K1 Z4) ?_)))))))))))))))))))))))))))))))))))))))
       refine Pk true (Av (.bool true) (Nr ?_))
       exact At_ret1 results9 (fun w q => ⟨rfl, q.mono (En (.succ (.succ (.succ Z4))) (En Z0 (.dropHead (.dropHead D4))))⟩)
     · have hjl : j < l.length := by have := of_decide_eq_true hb8; omega
       obtain ⟨z, hz⟩ : ∃ z, l[l.length - 1 - j]? = some z := ⟨_, List.getElem?_eq_getElem (by omega)⟩
       obtain ⟨p, hp⟩ : ∃ p, (z % 4).toNat = p := ⟨_, rfl⟩
       have hp4 : p < 4 := by omega
       obtain ⟨f, hf, hfc, hfh⟩ := hsp j z hjl hz
       rw [hp] at hfc
       obtain ⟨s, hs⟩ := row_some y6.2.1 hf
       have hk0 : f.kids[0]? = some ((j + 1 : Nat) : Int) := by rw [← List.head?_eq_getElem?]; exact hfh
       have hkl := (List.getElem?_eq_some_iff.1 hk0).1
       have hjf := (List.getElem?_eq_some_iff.1 hf).1
       have hsb := hsb0 (by rintro rfl; simp at hjl)
       have hfk1 := hfk f (List.mem_of_getElem? hf)
       refine WC.know (fun h q => (ka_open Z2 hf hs h q).2 (by intro h; rw [h] at hkl; simp at hkl)) fun hkn => ?_
       obtain ⟨kb, kc, hsk⟩ := hkn
       refine WC_true rfl (WC_skip (At_then (WC_seq (WC_block (WC_seq (WC_seq (WC_draw [] [Cl b7 26 [Sl y6.1.b fs.length y6.1.cap], NLo fs y6.1, RI gx (slV sv) l ri, (GMx gx), Cl b3 3 [Iv 29, Iv 30, Iv 27, Iv 34], Star KA fs y6.1.ss] mixed (Dt 0 rfl rfl (Q0 (.cons Z0 (.cons Z0 (K4 (.succ Z4) Z2 Z2 Z0)))) (Rm (Iv ((j : Nat) : Int)) rfl) (Dt 1 rfl rfl (Q0 (.cons Z0 (.cons Z0 (K4 (.succ Z4) Z2 Z2 Z0)))) (Rb (Iv ((j : Nat) : Int)) (Iv 0) (.bool false) rfl rfl eqg_int (by rw [binOp_lss]; rw [decide_eq_false (by omega)])) (Dt 2 rfl rfl (Q0 (.cons Z0 (.cons Z0 (K4 (.succ Z4) Z2 Z2 Z0)))) (Rm (.bool false) rfl) (WD_takeG 3 (b' := false) (e := 52) rfl rfl (by kernel_rfl) rfl rfl rfl rfl (Q0 (.cons Z0 (.cons Z0 (K4 (.succ Z4) Z2 Z2 Z0)))) (Rm (Iv ((j : Nat) : Int)) rfl) (WD_takeG 4 (b' := false) (e := 52) rfl rfl (by kernel_rfl) rfl rfl rfl rfl (Q0 (.cons Z0 (.cons Z0 (K4 (.succ Z4) Z2 Z2 Z0)))) (Rf b7 0 fa26_0 rfl) (WD_takeG 5 (b' := false) (e := 52) rfl rfl (by kernel_rfl) rfl rfl rfl rfl (Q0 (.cons Z0 (.cons Z0 (K4 (.succ Z4) Z2 Z2 Z0)))) (Rl b7 0 (Sl y6.1.b fs.length y6.1.cap) isAgg24 rfl Z0 rfl) (WD_takeG 6 (b' := false) (e := 52) rfl rfl (by kernel_rfl) rfl rfl rfl rfl (Q0 (.cons Z0 (.cons Z0 (K4 (.succ Z4) Z2 Z2 Z0)))) (rd_lenSV (s := (some ⟨y6.1.b, 0, none⟩, fs.length, y6.1.cap)) runUnderlying24 rfl rfl) (WD_takeG 7 (b' := false) (e := 52) rfl rfl (by kernel_rfl) rfl rfl rfl rfl (Q0 (.cons Z0 (.cons Z0 (K4 (.succ Z4) Z2 Z2 Z0)))) (Rb (Iv ((j : Nat) : Int)) (Iv ((fs.length : Nat) : Int)) (.bool false) rfl rfl eqg_int (by rw [binOp_geq]; rw [decide_eq_false (by omega)])) (Dt 8 rfl rfl (Q0 (.cons Z0 (.cons Z0 (K4 (.succ Z4) Z2 Z2 Z0)))) (rd_pick (b := false) rfl) (Dt 9 rfl rfl (Q0 (.cons Z0 (.cons Z0 (K4 (.succ Z4) Z2 Z2 Z0)))) (Rm (.bool false) rfl) (WD_takeG 10 (b' := false) (e := 59) rfl rfl (by kernel_rfl) rfl rfl rfl rfl (Q0 (.cons Z0 (.cons Z0 (K4 (.succ Z4) Z2 Z2 Z0)))) (Rf b7 0 fa26_0 rfl) (WD_takeG 11 (b' := false) (e := 59) rfl rfl (by kernel_rfl) rfl rfl rfl rfl (Q0 (.cons Z0 (.cons Z0 (K4 (.succ Z4) Z2 Z2 Z0)))) (Rl b7 0 (Sl y6.1.b fs.length y6.1.cap) isAgg24 rfl Z0 rfl) (WD_takeG 12 (b' := false) (e := 59) rfl rfl (by kernel_rfl) rfl rfl rfl rfl (Q0 (.cons Z0 (.cons Z0 (K4 (.succ Z4) Z2 Z2 Z0)))) (Rm (Iv ((j : Nat) : Int)) rfl) (WD_takeG 13 (b' := false) (e := 59) rfl rfl (by kernel_rfl) rfl rfl rfl rfl (Q0 (.cons Z0 (.cons Z0 (K4 (.succ Z4) Z2 Z2 Z0)))) (rd_idxN (j := j) runUnderlying24 sizeOf39 rfl rfl (rfl) (hjf) rfl) (WD_takeG 14 (b' := false) (e := 59) rfl rfl (by kernel_rfl) rfl rfl rfl rfl (Q0 (.cons Z0 (.cons Z0 (K4 (.succ Z4) Z2 Z2 Z0)))) (Rf y6.1.b (j * 5) fa39_0 rfl) (WD_takeG 15 (b' := false) (e := 59) rfl rfl (by kernel_rfl) rfl rfl rfl rfl (Q0 (.cons Z0 (.cons Z0 (K4 (.succ Z4) Z2 Z2 Z0)))) (Rl y6.1.b (j * 5) (Iv f.kind) isAgg3 rfl Z1 (row_kind (j := j) (f := f) y6.2.1 hf (by first | rfl | omega))) (WD_takeG 16 (b' := false) (e := 59) rfl rfl (by kernel_rfl) rfl rfl rfl rfl (Q0 (.cons Z0 (.cons Z0 (K4 (.succ Z4) Z2 Z2 Z0)))) (Rm (Sl b3 4 4) rfl) (WD_takeG 17 (b' := false) (e := 59) rfl rfl (by kernel_rfl) rfl rfl rfl rfl (Q0 (.cons Z0 (.cons Z0 (K4 (.succ Z4) Z2 Z2 Z0)))) (Rm (slV sv) rfl) (WD_takeG 18 (b' := false) (e := 59) rfl rfl (by kernel_rfl) rfl rfl rfl rfl (Q0 (.cons Z0 (.cons Z0 (K4 (.succ Z4) Z2 Z2 Z0)))) (Rm (Iv (((l.length : Nat) : Int) - 1 - ((j : Nat) : Int))) rfl) (WD_takeG 19 (b' := false) (e := 59) rfl rfl (by kernel_rfl) rfl rfl rfl rfl (Q0 (.cons Z0 (.cons Z0 (K4 (.succ Z4) Z2 Z2 Z0)))) (rd_idxI (i := l.length - 1 - j) (l := l) runUnderlying37 sizeOf3 rfl rfl (by omega) (by omega) hsl hsb) (WD_takeG 20 (b' := false) (e := 59) rfl rfl (by kernel_rfl) rfl rfl rfl rfl (Q0 (.cons Z0 (.cons Z0 (K4 (.succ Z4) Z2 Z2 Z0)))) (rd_ldI isAgg3 rfl (K2 Z2 Z2) hz) (WD_takeG 21 (b' := false) (e := 59) rfl rfl (by kernel_rfl) rfl rfl rfl rfl (Q0 (.cons Z0 (.cons Z0 (K4 (.succ Z4) Z2 Z2 Z0)))) (Rb (Iv z) (Iv 3) (Iv ((p : Nat) : Int)) rfl rfl eqg_int ((bin_and3 z).trans (by rw [hp]))) (WD_takeG 22 (b' := false) (e := 59) rfl rfl (by kernel_rfl) rfl rfl rfl rfl (Q0 (.cons Z0 (.cons Z0 (K4 (.succ Z4) Z2 Z2 Z0)))) (rd_idxN (j := p) (o := p) runUnderlying37 sizeOf3 rfl rfl rfl hp4 (Nat.mul_one p)) (WD_takeG 23 (b' := false) (e := 59) rfl rfl (by kernel_rfl) rfl rfl rfl rfl (Q0 (.cons Z0 (.cons Z0 (K4 (.succ Z4) Z2 Z2 Z0)))) (Rl b3 p (Iv (kindC p)) isAgg3 rfl Z4 (kinds_get hp4)) (WD_takeG 24 (b' := false) (e := 59) rfl rfl (by kernel_rfl) rfl rfl rfl rfl (Q0 (.cons Z0 (.cons Z0 (K4 (.succ Z4) Z2 Z2 Z0)))) (Rb (Iv f.kind) (Iv (kindC p)) (.bool false) rfl rfl eqg_int (by rw [binOp_neq]; rw [hfc, bne_self_eq_false])) (Dt 25 rfl rfl (Q0 (.cons Z0 (.cons Z0 (K4 (.succ Z4) Z2 Z2 Z0)))) (rd_pick (b := false) rfl) (Dt 26 rfl rfl (Q0 (.cons Z0 (.cons Z0 (K4 (.succ Z4) Z2 Z2 Z0)))) (Rm (.bool false) rfl) (WD_takeG 27 (b' := false) (e := 76) rfl rfl (by kernel_rfl) rfl rfl rfl rfl (Q0 (.cons Z0 (.cons Z0 (K4 (.succ Z4) Z2 Z2 Z0)))) (Rf b7 0 fa26_0 rfl) (WD_takeG 28 (b' := false) (e := 76) rfl rfl (by kernel_rfl) rfl rfl rfl rfl (Q0 (.cons Z0 (.cons Z0 (K4 (.succ Z4) Z2 Z2 Z0)))) (Rl b7 0 (Sl y6.1.b fs.length y6.1.cap) isAgg24 rfl Z0 rfl) (WD_takeG 29 (b' := false) (e := 76) rfl rfl (by kernel_rfl) rfl rfl rfl rfl (Q0 (.cons Z0 (.cons Z0 (K4 (.succ Z4) Z2 Z2 Z0)))) (Rm (Iv ((j : Nat) : Int)) rfl) (WD_takeG 30 (b' := false) (e := 76) rfl rfl (by kernel_rfl) rfl rfl rfl rfl (Q0 (.cons Z0 (.cons Z0 (K4 (.succ Z4) Z2 Z2 Z0)))) (rd_idxN (j := j) runUnderlying24 sizeOf39 rfl rfl (rfl) (hjf) rfl) (WD_takeG 31 (b' := false) (e := 76) rfl rfl (by kernel_rfl) rfl rfl rfl rfl (Q0 (.cons Z0 (.cons Z0 (K4 (.succ Z4) Z2 Z2 Z0)))) (Rf y6.1.b (j * 5) fa39_3 rfl) ?_)))))))))))))))))))))))))))))))))))))))
       refine WD_takeG 32 (b' := false) (e := 76) rfl rfl (by kernel_rfl) rfl rfl rfl rfl (Q0 (.cons Z0 (.cons Z0 (K4 (.succ Z4) Z2 Z2 Z0)))) (Rl y6.1.b (j * 5 + 3) (slV s) isAgg37 rfl Z1 (row_kids (j := j) (f := f) hf hs (by first | rfl | omega))) (WD_takeG 33 (b' := false) (e := 76) rfl rfl (by kernel_rfl) rfl rfl rfl rfl (Q0 (.cons Z0 (.cons Z0 (K4 (.succ Z4) Z2 Z2 Z0)))) (rd_lenKids runUnderlying37 rfl (.succ Z4) hf hs) (WD_takeG 34 (b' := false) (e := 76) rfl rfl (by kernel_rfl) rfl rfl rfl rfl (Q0 (.cons Z0 (.cons Z0 (K4 (.succ Z4) Z2 Z2 Z0)))) (Rb (Iv ((f.kids.length : Nat) : Int)) (Iv 0) (.bool false) rfl rfl eqg_int (by rw [binOp_eql]; rw [beq_eq_false_iff_ne.2 (by omega)])) (Dt 35 rfl rfl (Q0 (.cons Z0 (.cons Z0 (K4 (.succ Z4) Z2 Z2 Z0)))) (rd_pick (b := false) rfl) ?_)))
       refine WD_done (by kernel_rfl) ?_ _
       refine At_then (Fs (WC_region (Fa b7 0 fa26_0 (Lo b7 0 (Sl y6.1.b fs.length y6.1.cap) isAgg24 Z0 rfl (Mv (Iv ((j : Nat) : Int)) (WL_rd (rd_idxN (j := j) runUnderlying24 sizeOf39 rfl rfl (rfl) (hjf) rfl) (Fa y6.1.b (j * 5) fa39_3 (Lo y6.1.b (j * 5 + 3) (slV s) isAgg37 Z1 (row_kids (j := j) (f := f) hf hs (by first | rfl | omega)) (WL_rd (rd_idxK (k := 0) runUnderlying37 sizeOf3 rfl hsk rfl (rfl) (hkl)) (WL_rd (rd_ldKid isAgg3 rfl Z2 hf hs hsk hk0) (Av (Iv ((j + 1 : Nat) : Int)) (WL_nil (At_blockN (At_then (WC_region (Mv (Iv (((l.length : Nat) : Int) - 1 - ((j : Nat) : Int))) (Bo (Iv (((l.length : Nat) : Int) - 1 - ((j : Nat) : Int))) (Iv 1) (Iv ((((l.length : Nat) : Int) - 1 - ((j : Nat) : Int)) - 1)) eqg_int (bin_sub (by omega) (by omega)) (Av (Iv ((((l.length : Nat) : Int) - 1 - ((j : Nat) : Int)) - 1)) (WL_nil ?_)))))))))))))))))))
       exact At_againF (j + 1) (show (j + 1) ≤ l.length from (by omega)) ⟨rfl, rfl, rfl, rfl, congrArg (Value.int .i64) (by omega), trivial⟩ (En Z0 (En Z0 (En Z0 (En Z0 (E4 Z0 Z0 Z0 Z0))))) (show l.length - (j + 1) < l.length - j by omega)
   · have hil : i < l.length := by have := of_decide_eq_true hb4; omega
     obtain ⟨z, hz⟩ : ∃ z, l[i]? = some z := ⟨_, List.getElem?_eq_getElem (by omega)⟩
     obtain ⟨p, hp⟩ : ∃ p, (z % 4).toNat = p := ⟨_, rfl⟩
     have hp4 : p < 4 := by omega
     have hcl := chain_len (l.take i)
     rw [List.length_take] at hcl
     have hpl : (partB p).length ≤ 3 := by rcases p with _ | _ | _ | p <;> simp [partB]
     have hsb := hsb0 (by rintro rfl; simp at hil)
     refine WC_true rfl (WC_skip (At_then (WC_seq (WC_block (WC_region (Mv (.string (bs (97 :: chainB (pidx (l.take i))))) (Mv (Sl b2 4 4) (Mv (slV sv) (Mv (Iv ((i : Nat) : Int)) (WL_rd (rd_idxI (i := i) (l := l) runUnderlying37 sizeOf3 rfl rfl rfl hil hsl hsb) (WL_rd (rd_ldI isAgg3 rfl (K2 Z2 Z2) hz) (Bo (Iv z) (Iv 3) (Iv ((p : Nat) : Int)) eqg_int ((bin_and3 z).trans (by rw [hp])) (WL_rd (rd_idxN (j := p) (o := p) runUnderlying40 sizeOf9 rfl rfl rfl hp4 (Nat.mul_one p)) (Lo b2 p (Tx (partB p)) isAgg9 Z1 (parts_get hp4) (WL_rd (rd_addBs (a := (97 :: chainB (pidx (l.take i)))) (b := (partB p)) rfl rfl (by simp only [List.length_cons]; omega)) (Av (.string (bs ((97 :: chainB (pidx (l.take i))) ++ (partB p)))) (WL_nil (At_blockN (At_then (WC_region (Mv (Iv ((i : Nat) : Int)) (Bo (Iv ((i : Nat) : Int)) (Iv 1) (Iv (((i : Nat) : Int) + 1)) eqg_int (bin_add (by omega) (by omega)) (Av (Iv (((i : Nat) : Int) + 1)) (WL_nil ?_))))))))))))))))))))))))
     exact At_againF (i + 1) (show (i + 1) ≤ l.length from (by omega)) ⟨rfl, congrArg (fun x => Value.string (bs x)) (chain_snoc hz hp), rfl, rfl, rfl, trivial⟩ (E4 Z0 Z0 Z0 Z0) (show l.length - (i + 1) < l.length - i by omega)
 · refine Ts (WL_callQ (Δ := [(GMx gx)]) (v := .bool true) call21 rfl (c_known) (K1 Z1) (Av (.bool true) (Nr (At_thenR ?_))))
   exact At_ret1 results9 (fun w q => ⟨rfl, q.mono (E2 Z1 Z0)⟩)
end
end Go.Proofs
