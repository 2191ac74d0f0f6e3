/- A tree laid out, node by node. -/
import Derived.Test.YtldagpopfebbbaaGreatDoorZO
import Derived.Test.YtldagpopfebbbaaGreatDoorZP
import Derived.Test.YtldagpopfebbbaaGreatDoorTie
import Derived.Test.YtldagpopfebbbaaGreatDoorCards
import Derived.ProofKit
import Derived.LaidLaws
import Derived.Handed
import Derived.HandedShaped
import Derived.Shelf.Vars
import Derived.RowKit
import Derived.ChangeSlices
import Derived.WideKeyArgs
set_option linter.unusedVariables false
set_option linter.unusedSimpArgs false
namespace Go.Px
def kidsAt : List PT → Nat → List Int
 | [], _ => []
 | t :: l, b => (b : Int) :: kidsAt l (b + t.size)
mutual
def flat : PT → Nat → List FN
 | .node k s n a l, b => ⟨k, s, n, kidsAt l (b + 1), a⟩ :: flats l (b + 1)
def flats : List PT → Nat → List FN
 | [], _ => []
 | t :: l, b => flat t b ++ flats l (b + t.size)
end
mutual
theorem flat_len : ∀ (x : PT) (b : Nat), (flat x b).length = x.size
 | .node k s n a l, b => by unfold flat PT.size; rw [List.length_cons, flats_len l]
theorem flats_len : ∀ (l : List PT) (b : Nat), (flats l b).length = sizes l
 | [], b => by unfold flats sizes; rfl
 | t :: l, b => by unfold flats sizes; rw [List.length_append, flat_len t, flats_len l]
end
def addKids (fs : List FN) (p : Nat) (ks : List Int) : List FN := fs.modify p fun f => { f with kids := f.kids ++ ks }
theorem addKid_eq (fs : List FN) (p : Nat) (a : Int) : addKid fs p a = addKids fs p [a] := by
 unfold addKid addKids
 apply List.ext_getElem?
 intro i
 cases h : fs[p]? with
 | none =>
  simp only [List.getElem?_modify]
  by_cases e : p = i
  · subst e; simp [h]
  · simp [e]
 | some f =>
  simp only [List.getElem?_modify, List.getElem?_set]
  by_cases e : p = i
  · subst e
    obtain ⟨h1, h2⟩ := List.getElem?_eq_some_iff.1 h
    subst h2
    simp [h1]
  · simp [e]
theorem addKids_app {A B : List FN} {p : Nat} {ks : List Int} (h : p < A.length) : addKids (A ++ B) p ks = addKids A p ks ++ B := by
 unfold addKids
 apply List.ext_getElem?
 intro i
 by_cases hi : i < A.length
 · rw [List.getElem?_modify, List.getElem?_append_left hi, List.getElem?_append_left (by simpa using hi), List.getElem?_modify]
 · have e : ¬ p = i := by omega
   rw [List.getElem?_modify, List.getElem?_append_right (by omega), List.getElem?_append_right (by simpa using hi)]
   simp [e]
theorem addKids_two (A : List FN) (p : Nat) (a : Int) (ks : List Int) : addKids (addKids A p [a]) p ks = addKids A p (a :: ks) := by
 unfold addKids
 apply List.ext_getElem?
 intro i
 simp only [List.getElem?_modify]
 by_cases e : p = i <;> cases A[i]? <;> simp [e]
theorem addKids_nil (A : List FN) (p : Nat) : addKids A p [] = A := by
 unfold addKids
 apply List.ext_getElem?
 intro i
 simp only [List.getElem?_modify]
 by_cases e : p = i <;> cases A[i]? <;> simp [e]
theorem addKids_length (A : List FN) (p : Nat) (ks : List Int) : (addKids A p ks).length = A.length := by unfold addKids; simp
theorem addKids_last (A : List FN) (f : FN) (ks : List Int) : addKids (A ++ [f]) A.length ks = A ++ [{ f with kids := f.kids ++ ks }] := by
 induction A with
 | nil => rfl
 | cons a A ih =>
  show a :: addKids (A ++ [f]) A.length ks = _
  rw [ih]; rfl
mutual
theorem layK_tree : ∀ (x : PT) (p k : Nat) (st : List (PT × Int)) (fs : List FN), p < fs.length → layK (x.size + k) ((x, (p : Int)) :: st) fs = layK k st (addKids fs p [(fs.length : Int)] ++ flat x fs.length)
 | .node kk s n a l, p, k, st, fs, hp => by
  have e : (PT.node kk s n a l).size + k = (sizes l + k) + 1 := by unfold PT.size; omega
  rw [e]
  show layK (sizes l + k) (l.map (fun c => (c, (fs.length : Int))) ++ st) (bif decide (0 ≤ (p : Int)) then addKid (fs ++ [⟨kk, s, n, [], a⟩]) (p : Int).toNat fs.length else fs ++ [⟨kk, s, n, [], a⟩]) = _
  rw [show decide (0 ≤ (p : Int)) = true by simp, cond_true, Int.toNat_natCast, addKid_eq, addKids_app hp]
  have hl : (addKids fs p [(fs.length : Int)] ++ ([⟨kk, s, n, [], a⟩] : List FN)).length = fs.length + 1 := by simp [addKids_length]
  rw [layK_list l fs.length k st _ (by rw [hl]; omega), hl]
  have h2 := addKids_last (addKids fs p [(fs.length : Int)]) ⟨kk, s, n, [], a⟩ (kidsAt l (fs.length + 1))
  rw [addKids_length] at h2
  rw [h2, List.append_assoc]
  unfold flat
  rfl
theorem layK_list : ∀ (l : List PT) (p k : Nat) (st : List (PT × Int)) (fs : List FN), p < fs.length → layK (sizes l + k) (l.map (fun c => (c, (p : Int))) ++ st) fs = layK k st (addKids fs p (kidsAt l fs.length) ++ flats l fs.length)
 | [], p, k, st, fs, hp => by unfold sizes kidsAt flats; rw [addKids_nil, List.append_nil, Nat.zero_add]; rfl
 | x :: l, p, k, st, fs, hp => by
  unfold sizes
  rw [Nat.add_assoc, List.map_cons, List.cons_append, layK_tree x p _ _ fs hp]
  have hl : (addKids fs p [(fs.length : Int)] ++ flat x fs.length).length = fs.length + x.size := by rw [List.length_append, addKids_length, flat_len]
  rw [layK_list l p k st _ (by rw [hl]; omega), hl, addKids_app (by rw [addKids_length]; exact hp), addKids_two, List.append_assoc]
  rfl
end
end Go.Px
namespace Go.Proofs
open Go.Px
theorem lay_flat (x : PT) : lay x = flat x 0 := by
 obtain ⟨kk, s, n, a, l⟩ := x
 unfold lay
 have e : (PT.node kk s n a l).size = sizes l + 0 + 1 := by unfold PT.size; omega
 rw [e]
 show layK (sizes l + 0) (l.map (fun c => (c, ((0 : Nat) : Int))) ++ []) [⟨kk, s, n, [], a⟩] = _
 rw [layK_list l 0 0 [] [⟨kk, s, n, [], a⟩] (by simp)]
 have h2 := addKids_last [] ⟨kk, s, n, [], a⟩ (kidsAt l 1)
 unfold flat layK
 show addKids ([] ++ [⟨kk, s, n, [], a⟩]) ([] : List FN).length (kidsAt l 1) ++ flats l 1 = _
 rw [h2]; rfl
theorem kidsAt_len : ∀ (l : List PT) (b : Nat), (kidsAt l b).length = l.length
 | [], b => rfl
 | t :: l, b => by unfold kidsAt; rw [List.length_cons, kidsAt_len l, List.length_cons]
mutual
theorem flat_kids : ∀ (x : PT) (b : Nat), ∀ f ∈ flat x b, f.kids.length ≤ x.size
 | .node k s n a l, b, f, hf => by
  unfold flat at hf
  unfold PT.size
  rcases List.mem_cons.1 hf with rfl | hf
  · show (kidsAt l (b + 1)).length ≤ _
    rw [kidsAt_len]
    have := len_sizes l
    omega
  · have := flats_kids l (b + 1) f hf
    omega
theorem flats_kids : ∀ (l : List PT) (b : Nat), ∀ f ∈ flats l b, f.kids.length ≤ sizes l
 | [], b, f, hf => by unfold flats at hf; cases hf
 | t :: l, b, f, hf => by
  unfold flats at hf
  unfold sizes
  rcases List.mem_append.1 hf with hf | hf
  · have := flat_kids t b f hf
    omega
  · have := flats_kids l (b + t.size) f hf
    omega
end
theorem lay_len (x : PT) : (lay x).length = x.size := by rw [lay_flat, flat_len]
theorem lay_kids (x : PT) : ∀ f ∈ lay x, f.kids.length ≤ x.size := fun f hf => flat_kids x 0 f (by rw [← lay_flat]; exact hf)
/-- from b on, R is x laid out -/
def Emb (R : List FN) (b : Nat) (x : PT) : Prop := ∀ (i : Nat) f, (flat x b)[i]? = some f → R[b + i]? = some f
def Embs (R : List FN) (b : Nat) (l : List PT) : Prop := ∀ (i : Nat) f, (flats l b)[i]? = some f → R[b + i]? = some f
theorem emb_lay (x : PT) : Emb (lay x) 0 x := fun i f h => by rw [lay_flat, Nat.zero_add]; exact h
theorem emb_node {R : List FN} {b : Nat} {k n a : Int} {s : Bs} {l : List PT} (h : Emb R b (.node k s n a l)) : R[b]? = some ⟨k, s, n, kidsAt l (b + 1), a⟩ ∧ Embs R (b + 1) l := by
 refine ⟨h 0 _ (by unfold flat; rfl), fun i f hf => ?_⟩
 have := h (i + 1) f (by unfold flat; exact hf)
 rw [← this]; congr 1; omega
theorem embs_cons {R : List FN} {b : Nat} {x : PT} {l : List PT} (h : Embs R b (x :: l)) : Emb R b x ∧ Embs R (b + x.size) l := by
 have h2 : ∀ (i : Nat) f, (flat x b ++ flats l (b + x.size))[i]? = some f → R[b + i]? = some f := fun i f hf => h i f (by unfold flats; exact hf)
 refine ⟨fun i f hf => h2 i f ?_, fun i f hf => ?_⟩
 · rw [List.getElem?_append_left (List.getElem?_eq_some_iff.1 hf).1]; exact hf
 · have := h2 (x.size + i) f (by rw [List.getElem?_append_right (by rw [flat_len]; omega), flat_len]; rw [← hf]; congr 1; omega)
   rw [← this]; congr 1; omega
theorem emb_head {R : List FN} {b : Nat} {x : PT} (h : Emb R b x) : R[b]? = some ⟨x.kind, x.text, x.num, kidsAt x.kids (b + 1), x.pos⟩ := by
 obtain ⟨k, s, n, a, l⟩ := x; exact (emb_node h).1
theorem whole_er {l : Bs} {K N kind : Nat} {a er : Int} (h : wholeB l K N kind = some (.inr (a, er))) : er ≠ 0 := by
 unfold wholeB at h
 cases ht : tokensB l K with
 | none => rw [ht] at h; cases h
 | some r =>
  rw [ht] at h
  cases r with
  | inr e => cases h; have := tokensB_err ht; omega
  | inl ts =>
   dsimp only at h
   cases g : decide (0 ≤ (depthL 64 ts 0 0 0 (-1)).2) <;> rw [g] at h
   case true => cases h; decide
   simp only [cond_false] at h
   cases hr : runM K (gr K N) kind ts with
   | none => rw [hr] at h; cases h
   | some q =>
    rw [hr] at h
    cases q with
    | error a => cases h; decide
    | ok p => obtain ⟨y, ts'⟩ := p; cases h
end Go.Proofs

namespace Go.Proofs
open Go.Px
def quietK (k : Int) : Prop := k = 1 ∨ k = 2
/-- a node stands no earlier than a, in the text, none of its kids earlier -/
def PlcOK (N a : Int) (R : List FN) (f : FN) : Prop := quietK f.kind ∨ (a ≤ f.at_ ∧ f.at_ ≤ N ∧ ∀ c ∈ f.kids, ∃ (o : Nat) (g : FN), c = o ∧ R[o]? = some g ∧ (quietK g.kind ∨ f.at_ ≤ g.at_))
theorem plc_mono {N a c : Int} {R : List FN} {f : FN} (h : PlcOK N a R f) (hc : c ≤ a) : PlcOK N c R f := by
 rcases h with h | ⟨h1, h2⟩
 · exact .inl h
 · exact .inr ⟨by omega, h2⟩
theorem fr_pos {N b : Int} {x : PT} (h : Fr N b x) : quietK x.kind ∨ b ≤ x.pos := by
 obtain ⟨k, s, n, a, l⟩ := x
 unfold Fr at h
 rcases h with ⟨h, _⟩ | ⟨h, _⟩
 · exact .inl h
 · exact .inr h
mutual
theorem places_tree {N : Int} {R : List FN} : ∀ {x : PT} {a : Int} {b : Nat}, Fr N a x → Emb R b x → ∀ f ∈ flat x b, PlcOK N a R f
 | .node k s n p l, a, b, h, he, f, hf => by
  obtain ⟨_, h2⟩ := emb_node he
  unfold Fr at h
  unfold flat at hf
  rcases h with ⟨hk, h⟩ | ⟨h3, h4, h⟩
  · rcases List.mem_cons.1 hf with rfl | hf
    · exact .inl hk
    · exact (places_list h h2).1 f hf
  · have h5 := places_list h h2
    rcases List.mem_cons.1 hf with rfl | hf
    · exact .inr ⟨h3, h4, h5.2⟩
    · exact plc_mono (h5.1 f hf) h3
theorem places_list {N : Int} {R : List FN} : ∀ {l : List PT} {a : Int} {b : Nat}, Frs N a l → Embs R b l → (∀ f ∈ flats l b, PlcOK N a R f) ∧ ∀ c ∈ kidsAt l b, ∃ (o : Nat) (g : FN), c = o ∧ R[o]? = some g ∧ (quietK g.kind ∨ a ≤ g.at_)
 | [], a, b, h, he => ⟨fun f hf => (by unfold flats at hf; cases hf), fun c hc => (by unfold kidsAt at hc; cases hc)⟩
 | x :: l, a, b, h, he => by
  obtain ⟨h1, h2⟩ := embs_cons he
  unfold Frs at h
  have h3 := places_list h.2 h2
  refine ⟨fun f hf => ?_, fun c hc => ?_⟩
  · unfold flats at hf
    rcases List.mem_append.1 hf with hf | hf
    · exact places_tree h.1 h1 f hf
    · exact h3.1 f hf
  · unfold kidsAt at hc
    rcases List.mem_cons.1 hc with rfl | hc
    · exact ⟨b, _, rfl, emb_head h1, fr_pos h.1⟩
    · exact h3.2 c hc
end
/-- the lexer's tokens stand one behind the other -/
theorem cut_w (l : Bs) (k : Int) {i j : Nat} (h : i ≤ j) : (cutT l k i j).pos + wid (cutT l k i j) ≤ (cutT l k i j).en := by
 have h1 : (cutT l k i j).text.length ≤ j - i := by show ((l.drop i).take (j - i)).length ≤ _; rw [List.length_take]; omega
 unfold wid
 show (i : Int) + _ ≤ (j : Int)
 cases ((cutT l k i j).kind == 9) <;> simp only [cond_true, cond_false] <;> omega
theorem sign_w (l : Bs) (i : Nat) : ∀ ss : List (Nat × Bs), (signL l i ss).kind = 0 ∨ (signL l i ss).pos + wid (signL l i ss) ≤ (signL l i ss).en
 | [] => .inl rfl
 | (n, s) :: rest => by
  rw [signL]
  cases decide (l.length - i < n) with
  | true => exact sign_w l i rest
  | false =>
   dsimp only [cond_false]
   cases ((cutT l 9 i (i + n)).text.any blankB || !Lib.contains s ([32] ++ (cutT l 9 i (i + n)).text ++ [32])) with
   | true => exact sign_w l i rest
   | false => exact .inr (cut_w l 9 (by omega))
theorem token_w {l : Bs} {K j : Nat} {op op' : List Bool} {t : Tk} (h : tokenK l K j op = some (t, op')) : t.kind = 0 ∨ t.pos + wid t ≤ t.en := by
 rcases token_f h with h0 | ⟨_, hpos, e, hen, hlt, _, _⟩
 · exact .inl h0
 by_cases h9 : t.kind = 9
 case neg => exact .inr (by rw [show wid t = 0 by unfold wid; rw [show (t.kind == 9) = false by simpa using h9]; rfl]; omega)
 rw [tokenK] at h
 cases hc : l[j]? with
 | none => rw [hc] at h; cases h
 | some c =>
  have hjl := (List.getElem?_eq_some_iff.1 hc).1
  rw [hc] at h
  dsimp only at h
  cases g1 : letterB c <;> rw [g1] at h
  case true =>
   simp only [cond_true] at h
   cases h
   exfalso
   unfold wordT at h9
   cases hres : reservedB (cutT l 1 j (j + runOf (fun c => letterB c || digitB c) l j)).text <;> simp only [hres, cond_true, cond_false] at h9 <;> exact absurd h9 (by simp [cutT])
  cases g2 : digitB c <;> rw [g2] at h
  case true =>
   simp only [cond_true, cond_false] at h
   cases h
   exfalso
   unfold numberT at h9
   revert h9
   dsimp only
   generalize decide (numV ((l.drop j).take (j + runOf digitB l j - j)) > 9007199254740991) = b1
   generalize ((l[j]? == some 48) && decide (j + runOf digitB l j > j + 1)) = b2
   generalize letterAt l (j + runOf digitB l j) = b3
   cases b1 <;> cases b2 <;> cases b3 <;> simp [noT, cutT]
  cases g3 : (c == 34 || c == 39) <;> rw [g3] at h
  case true =>
   simp only [cond_true, cond_false] at h
   cases hq : quotedK l j c K (j + 1) [] with
   | none => rw [hq] at h; cases h
   | some t0 =>
    rw [hq] at h; cases h
    rcases quoted_f hq with h | ⟨h1, _⟩ <;> exact .inl (by omega)
  cases g4 : (c == 96) <;> rw [g4] at h
  case true =>
   simp only [cond_true, cond_false] at h
   cases hq : pieceK l j 5 6 K (j + 1) [] with
   | none => rw [hq] at h; cases h
   | some t0 =>
    rw [hq] at h; cases h
    rcases piece_f hq with h | ⟨h1, _⟩ <;> exact .inl (by omega)
  cases g5 : (c == 125 && op.head?.getD false) <;> rw [g5] at h
  case true =>
   simp only [cond_true, cond_false] at h
   cases hq : pieceK l j 8 7 K (j + 1) [] with
   | none => rw [hq] at h; cases h
   | some t0 =>
    rw [hq] at h; cases h
    rcases piece_f hq with h | ⟨h1, _⟩ <;> exact .inl (by omega)
  simp only [cond_false] at h
  cases h
  exact sign_w l j signs3
theorem next_w {l : Bs} {K i j : Nat} {op op' : List Bool} {t : Tk} (h : nextK l K i op = some (.tok t j op')) (hi : i ≤ l.length) : (t.kind = 10 ∧ t.pos = l.length) ∨ (t.kind ≠ 10 ∧ (i : Int) ≤ t.pos ∧ t.pos + wid t ≤ j ∧ j ≤ l.length) := by
 rcases next_f h hi with ⟨h1, _, h2⟩ | ⟨h1, p, h2, h3, h4⟩
 · exact .inl ⟨h1, h2⟩
 · right
   obtain ⟨_, hp, e, he, hlt, hel, _⟩ := h3
   refine ⟨h1, by omega, ?_, by omega⟩
   unfold nextK at h
   cases hb : blanksK l K i with
   | none => rw [hb] at h; cases h
   | some q =>
    obtain ⟨b, k⟩ := q
    rw [hb] at h
    cases b with
    | false => cases h
    | true =>
     dsimp only at h
     cases g : decide (k = l.length) <;> rw [g] at h
     case true => cases h; exact absurd rfl h1
     simp only [cond_false] at h
     cases ht : tokenK l K k op with
     | none => rw [ht] at h; cases h
     | some q0 =>
      obtain ⟨t0, op0⟩ := q0
      rw [ht] at h
      dsimp only at h
      cases g0 : (t0.kind == 0) <;> rw [g0] at h
      case true => cases h
      cases h
      rcases token_w ht with h | h
      · exact absurd h (by simpa using g0)
      · omega
theorem srt_snoc {i j : Int} {t : Tk} (h1 : i ≤ t.pos) (h2 : t.pos + wid t ≤ j) : ∀ {acc : List Tk}, Srt i acc → Srt j (acc ++ [t])
 | [], _ => h2
 | [a], h => ⟨by have h : a.pos + wid a ≤ i := h; omega, h2⟩
 | a :: b :: l, h => ⟨h.1, srt_snoc h1 h2 (acc := b :: l) h.2⟩
theorem tokens_srt {l : Bs} {K : Nat} : ∀ {k n i : Nat} {op : List Bool} {acc ts : List Tk}, tokensK l K k n i op acc = some (.inl ts) → i ≤ l.length → Srt i acc → Srt l.length ts
 | 0, n, i, op, acc, ts, h, hi, h1 => by cases h
 | k + 1, n, i, op, acc, ts, h, hi, h1 => by
  rw [tokensK] at h
  cases hr : nextK l K i op with
  | none => rw [hr] at h; cases h
  | some r =>
   rw [hr] at h
   cases r with
   | bad a => cases h
   | tok t j op' =>
    dsimp only at h
    cases g : (n == 8192 && t.kind != 10) <;> rw [g] at h
    case true => cases h
    simp only [cond_false] at h
    rcases next_w hr hi with ⟨h2, h3⟩ | ⟨h2, h3, h4, h5⟩
    · rw [h2] at h
      cases h
      exact srt_snoc (by omega) (by unfold wid; rw [h2]; show t.pos + 0 ≤ _; omega) h1
    · rw [show (t.kind == 10) = false by simpa using h2] at h
      exact tokens_srt h h5 (srt_snoc h3 h4 h1)
theorem tokens_st {l : Bs} {K : Nat} {ts : List Tk} (h : tokensB l K = some (.inl ts)) : St l.length ts := by
 have h9 := tokensB_f h
 unfold tokensB at h
 cases g : decide (l.length > 65536) <;> rw [g] at h
 case true => cases h
 have h := tokens_srt h (Nat.zero_le _) trivial
 cases ts with
 | nil => exact ⟨h, Int.le_refl _, by show (0 : Int) ≤ l.length; omega⟩
 | cons t r => have := h9.1 t (by simp); exact ⟨h, this.2.1, this.2.2.1⟩
/-- where a text's nodes stand -/
theorem whole_places {l : Bs} {K N kind : Nat} {x : PT} (h : wholeB l K N kind = some (.inl x)) : ∀ f ∈ lay x, PlcOK l.length 0 (lay x) f := by
 unfold wholeB at h
 cases ht : tokensB l K with
 | none => rw [ht] at h; cases h
 | some r =>
  rw [ht] at h
  cases r with
  | inr e => cases h
  | inl ts =>
   dsimp only at h
   cases g : decide (0 ≤ (depthL 64 ts 0 0 0 (-1)).2) <;> rw [g] at h
   case true => cases h
   simp only [cond_false] at h
   cases hr : runM K (gr K N) kind ts with
   | none => rw [hr] at h; cases h
   | some q =>
    rw [hr] at h
    cases q with
    | error a => cases h
    | ok p =>
     obtain ⟨y, ts'⟩ := p
     cases h
     have h1 := run_fr (tokens_st ht) x ts' hr
     have h2 := places_tree h1 (emb_lay x)
     rw [← lay_flat] at h2
     exact h2
end Go.Proofs

namespace Go.Proofs
open Go.Px Tryz
theorem star_at {α β : Type} {A : α → β → HP} {Γ : List HP} {a : α} {b : β} : ∀ {xs : List α} {bs : List β} {j : Nat}, xs[j]? = some a → bs[j]? = some b → Ent (Star A xs bs :: Γ) (A a b :: Γ)
 | [], _, _, h, _ => by simp at h
 | _ :: _, [], _, _, h => by simp at h
 | x :: xs, y :: bs, 0, h, h' => by
  simp only [List.getElem?_cons_zero, Option.some.injEq] at h h'
  subst h h'
  exact fun h s => sep_tail (fun h s => sep_drop s) (ent_all [A x y, Star A xs bs] Γ h s)
 | x :: xs, y :: bs, j + 1, h, h' => by
  simp only [List.getElem?_cons_succ] at h h'
  exact fun h9 s => star_at h h' h9 (sep_drop (ent_all [A x y, Star A xs bs] Γ h9 s))
theorem row_all {f : FN} {s : SV} {sp : List Value} : ∀ {fs : List FN} {ss : List SV} {j : Nat}, fs[j]? = some f → ss[j]? = some s → (((nrows fs ss).flatten ++ sp).drop (j * 5)).take 5 = nrow f s
 | [], _, _, h, _ => by simp at h
 | _ :: _, [], _, _, h => by simp at h
 | f0 :: fs, s0 :: ss, 0, h, h' => by
  simp only [List.getElem?_cons_zero, Option.some.injEq] at h h'
  subst h h'
  rfl
 | f0 :: fs, s0 :: ss, j + 1, h, h' => by
  simp only [List.getElem?_cons_succ] at h h'
  have h9 := row_all (sp := sp) h h'
  rw [← h9]
  show ((((nrow f0 s0 :: nrows fs ss).flatten) ++ sp).drop ((j + 1) * 5)).take 5 = _
  rw [List.flatten_cons, List.append_assoc, show (j + 1) * 5 = (nrow f0 s0).length + j * 5 by simp [nrow]; omega, List.drop_append, List.drop_eq_nil_of_le (by omega), List.nil_append, Nat.add_sub_cancel_left]
theorem row_kids {fs : List FN} {ss : List SV} {j o : Nat} {f : FN} {s : SV} {sp : List Value} (h : fs[j]? = some f) (hs : ss[j]? = some s) (ho : o = j * 5 + 3) : ((nrows fs ss).flatten ++ sp)[o]? = some (slV s) := by subst ho; exact row_get (k := 3) (by decide) h hs rfl
theorem ka_open {Γ Γ' : List HP} {fs : List FN} {ss : List SV} {j : Nat} {f : FN} {s : SV} (hs : Sel Γ (Star KA fs ss) Γ') (hf : fs[j]? = some f) (hj : ss[j]? = some s) : ∀ h, sep Γ h → s.2.1 = f.kids.length ∧ (f.kids ≠ [] → ∃ kb kc, s = (some ⟨kb, 0, none⟩, f.kids.length, kc)) := fun h q => by
 obtain ⟨_, _, _, p, _⟩ := star_at hf hj h (hs.ent h q)
 obtain ⟨s1, s2, s3⟩ := s
 obtain ⟨_, ⟨e, h0⟩ | ⟨b, cap, sp, e, _⟩⟩ := p
 · have e : Value.slice s1 s2 s3 = .slice none 0 0 := e
   cases e
   exact ⟨h0.symm, fun h => absurd (List.eq_nil_of_length_eq_zero h0) h⟩
 · have e : Value.slice s1 s2 s3 = .slice (some ⟨b, 0, none⟩) f.kids.length cap := e
   cases e
   exact ⟨rfl, fun _ => ⟨b, _, rfl⟩⟩
section
variable {n : Nat} {ρ : Env} {Γ Γ' : List HP} {d : Option Tmp} {ty : TypeId} {pos : String} {af : Array Edge} {gd : Option (Nat × Bool)} {fs : List FN} {ss : List SV} {j : Nat} {f : FN} {s : SV}
theorem rd_row {x : Operand} {T : TypeId} {b o : Nat} {E : TypeId} {sp : List Value} (hA : ∀ w, (isAgg T).run prog w = .ok true w) (hS : ∀ w, (sizeOf T).run prog w = .ok 5 w) (hx : evE n ρ x = .pointer (some ⟨b, o, none⟩))
 (hs : Sel Γ (Cl b E ((nrows fs ss).flatten ++ sp)) Γ') (hf : fs[j]? = some f) (hj : ss[j]? = some s) (ho : o = j * 5) : Rd prog n ρ ⟨d, .load T x, ty, pos, af, gd⟩ Γ (.agg #[.int .i64 f.kind, .string (bs f.text), .int .i64 f.num, slV s, .int .i64 f.at_]) := by
 subst ho
 exact rd_loadN (vs := nrow f s) hA hS hx hs (row_all hf hj) rfl
theorem rd_lenKids {x : Operand} {T E : TypeId} (hU : ∀ w, (underlying T).run prog w = .ok (.slice E) w) (hx : evE n ρ x = slV s) (hs : Sel Γ (Star KA fs ss) Γ') (hf : fs[j]? = some f) (hj : ss[j]? = some s) :
 Rd prog n ρ ⟨d, .call ⟨.builtin .len, #[x], #[T]⟩, ty, pos, af, gd⟩ Γ (.int .i64 ((f.kids.length : Nat) : Int)) := fun w q =>
 rd_lenSV hU hx (congrArg Int.ofNat (ka_open hs hf hj _ q).1) w q
theorem rd_idxK {x y : Operand} {T E : TypeId} {kb k len cap : Nat} {i : Int} {ik : IntKind} (hU : ∀ w, (underlying T).run prog w = .ok (.slice E) w) (hS : ∀ w, (sizeOf E).run prog w = .ok 1 w)
 (hx : evE n ρ x = slV s) (hk : s = (some ⟨kb, 0, none⟩, len, cap)) (hy : evE n ρ y = .int ik i) (hi : i = (k : Int)) (h1 : k < len) : Rd prog n ρ ⟨d, .indexAddr T x y, ty, pos, af, gd⟩ Γ (.pointer (some ⟨kb, k, none⟩)) := by
 subst hk
 exact rd_idxN hU hS hx hy hi h1 (Nat.mul_one k)
theorem rd_ldKid {x : Operand} {T : TypeId} {kb k m cap : Nat} {c : Int} (hA : ∀ w, (isAgg T).run prog w = .ok false w) (hx : evE n ρ x = .pointer (some ⟨kb, k, none⟩)) (hs : Sel Γ (Star KA fs ss) Γ') (hf : fs[j]? = some f) (hj : ss[j]? = some s)
 (hk : s = (some ⟨kb, 0, none⟩, m, cap)) (hc : f.kids[k]? = some c) : Rd prog n ρ ⟨d, .load T x, ty, pos, af, gd⟩ Γ (.int .i64 c) := fun w q => by
 subst hk
 obtain ⟨h1, h2, d1, p, q2⟩ := star_at hf hj _ (hs.ent _ q)
 obtain ⟨_, ⟨e, h0⟩ | ⟨b, cp, sp, e, _, _, _, p⟩⟩ := p
 · cases e
 · cases e
   exact rd_load1' (l := f.kids.map (.int .i64 ·) ++ sp) hA hx .zero (by
    have := (List.getElem?_eq_some_iff.1 hc).1
    rw [List.getElem?_append_left (by simpa using this), List.getElem?_map, hc]; rfl) w ⟨h1, h2, d1, p, q2⟩
/-- len of a slice of bytes that is read -/
theorem rb_len {l : Bs} {rx : RX} {F : List HP} {w : World} {sv : SV} (s : Sat (RB (slV sv) l rx :: F) w) : (sv.2.1 : Int) = ((l.length : Nat) : Int) := by
 obtain ⟨s1, s2, s3⟩ := sv
 rcases rb_cases s with ⟨_, e, rfl, _⟩ | ⟨a, cap, _, e, rfl, _⟩ | ⟨b, o, cap, c, T, fz, _, e, _, _⟩
 · have e : Value.slice s1 s2 s3 = _ := e
   cases e; rfl
 · have e : Value.slice s1 s2 s3 = _ := e
   cases e; rfl
 · have e : Value.slice s1 s2 s3 = _ := e
   cases e; rfl
end
end Go.Proofs

namespace Go.Proofs
open Go.Px Tryz
section
variable {pb tb cap K : Nat} {L : List Tk} {g : NT → M PT} {gx : GX} {rx : RX}
theorem c_placesL {sv : SV} {l : Bs} (hsl : (sv.2.1 : Int) = ((l.length : Nat) : Int)) (hl : 800 < l.length) : ∀ F w, Sat ([RB (slV sv) l rx, (GMx gx)] ++ F) w → Calls prog 4 [slV sv].toArray w fun e w' => e = .returned (.bool true) ∧ Sat ([RB (slV sv) l rx, (GMx gx)] ++ F) w' := by
 intro F
 refine calls_of_WC (fn := f4) func4 rfl rfl (Sr (Av (.bool false) (Nz (Mv (slV sv) (WL_rd (rd_lenSV (s := sv) runUnderlying22 rfl hsl) (Bo (Iv ((l.length : Nat) : Int)) (Iv 800) (.bool true) eqg_int (by rw [binOp_gtr]; rw [decide_eq_true (by omega)]) (Nt (Ts (Av (.bool true) (Nr (At_thenR ?_)))))))))))
 exact At_ret1 results4 (fun w q => ⟨rfl, q.mono (E2 Z0 Z0)⟩)
theorem c_placesE {sv : SV} {l : Bs} (hsl : (sv.2.1 : Int) = ((l.length : Nat) : Int)) (hl : l.length ≤ 800) {a er : Int} (H : wholeB l KF NF 0 = some (.inr (a, er))) (her : er ≠ 0) : ∀ F w, Sat ([RB (slV sv) l rx, (GMx gx)] ++ F) w → Calls prog 4 [slV sv].toArray w fun e w' => e = .returned (.bool true) ∧ Sat ([RB (slV sv) l rx, (GMx gx)] ++ F) w' := by
 intro F
 refine calls_of_WC (fn := f4) func4 rfl rfl (Sr (Av (.bool false) (Nz (Mv (slV sv) (WL_rd (rd_lenSV (s := sv) runUnderlying22 rfl hsl) (Bo (Iv ((l.length : Nat) : Int)) (Iv 800) (.bool false) eqg_int (by rw [binOp_gtr]; rw [decide_eq_false (by omega)]) (Nt (Fx (Mv (slV sv) (WL_callQ (Δ := [RB (slV sv) l rx, (GMx gx)]) (v := .tuple #[.agg #[.slice none 0 0], Iv a, Iv er]) call16 rfl (c_refused (sv := sv) (kind := 0) (by decide) (by omega) H) (K2 Z0 Z0) (Mv (.tuple #[.agg #[.slice none 0 0], Iv a, Iv er]) (Xt (.agg #[.slice none 0 0]) (Xt (Iv a) (Xt (Iv er) (WL_ef (ef_alloc (l := [.slice none 0 0]) zeroValue26 rfl) fun b1 => Sa b1 0 [.slice none 0 0] sizeOf26 Z0 (.put .done) (Av (Iv a) (Av (Iv er) (Nz (Mv (Iv er) (Bo (Iv er) (Iv 0) (.bool true) eqg_int (by rw [binOp_neq]; rw [bne_iff_ne.2 her]) (Nt (Ts (WL_callQ (Δ := [(GMx gx)]) (v := .bool true) call21 rfl (c_known) (K1 Z2) (Av (.bool true) (Nr (At_thenR ?_))))))))))))))))))))))))))
 exact At_ret1 results4 (fun w q => ⟨rfl, q.mono (En Z2 (En Z0 D1))⟩)
theorem c_placesO {sv : SV} {l : Bs} (hsl : (sv.2.1 : Int) = ((l.length : Nat) : Int)) (hl : l.length ≤ 800) {fs : List FN} (H : laidB l 0 = some fs) (hP : ∀ f ∈ fs, PlcOK l.length 0 fs f) (hfl : fs.length ≤ 200000) (hkl0 : ∀ f ∈ fs, f.kids.length ≤ 200000) : ∀ F w, Sat ([RB (slV sv) l rx, (GMx gx)] ++ F) w → Calls prog 4 [slV sv].toArray w fun e w' => e = .returned (.bool true) ∧ Sat ([RB (slV sv) l rx, (GMx gx)] ++ F) w' := by
 intro F
 refine calls_of_WC (fn := f4) func4 rfl rfl (Sr (Av (.bool false) (Nz (Mv (slV sv) (WL_rd (rd_lenSV (s := sv) runUnderlying22 rfl hsl) (Bo (Iv ((l.length : Nat) : Int)) (Iv 800) (.bool false) eqg_int (by rw [binOp_gtr]; rw [decide_eq_false (by omega)]) (Nt (Fx (Mv (slV sv) (WL_callX (α := { y : Nd // y.ss.length = fs.length ∧ fs.length ≤ y.cap }) (Δ0 := [RB (slV sv) l rx, (GMx gx)]) (Δ := fun y1 => [NLo fs y1.1, Star KA fs y1.1.ss, RB (slV sv) l rx, (GMx gx)]) (v := fun y1 => .tuple #[.agg #[Sl y1.1.b fs.length y1.1.cap], Iv 0, Iv 0]) call16 rfl (c_parsedF (sv := sv) (kind := 0) (fs := fs) (by decide) (by omega) H) (K2 Z0 Z0) fun y1 => Mv (.tuple #[.agg #[Sl y1.1.b fs.length y1.1.cap], Iv 0, Iv 0]) (Xt (.agg #[Sl y1.1.b fs.length y1.1.cap]) (Xt (Iv 0) (Xt (Iv 0) (WL_ef (ef_alloc (l := [.slice none 0 0]) zeroValue26 rfl) fun b2 => Sa b2 0 [Sl y1.1.b fs.length y1.1.cap] sizeOf26 Z0 (.put .done) (Av (Iv 0) (Av (Iv 0) (Nz (Mv (Iv 0) (Bo (Iv 0) (Iv 0) (.bool false) eqg_int (by rw [binOp_neq]; rfl) (Nt (Fz (Av (Iv 0) (Nt (WC_block (WC_loopF (α := Nat) (fun x => x ≤ fs.length) (fun x => [(0, slV sv), (2, .bool false), (3, ptr b2), (6, Iv ((x : Nat) : Int))]) (fun x => Cl b2 26 [Sl y1.1.b fs.length y1.1.cap] :: NLo fs y1.1 :: Star KA fs y1.1.ss :: RB (slV sv) l rx :: (GMx gx) :: F) (fun x => fs.length - x) 0 (show 0 ≤ fs.length from (Nat.zero_le _)) ⟨rfl, rfl, rfl, rfl, trivial⟩ (En Z0 (E4 Z0 Z0 Z0 Z0)) ?_)))))))))))))))))))))))))
 rintro i σ hpre
 replace hpre : i ≤ fs.length := hpre
 show WC prog _ _ _ (upds σ [(0, slV sv), (2, .bool false), (3, ptr b2), (6, Iv ((i : Nat) : Int))]) _ (Cl b2 26 [Sl y1.1.b fs.length y1.1.cap] :: NLo fs y1.1 :: Star KA fs y1.1.ss :: RB (slV sv) l rx :: (GMx gx) :: F)
 refine Sz (Mv (Iv ((i : Nat) : Int)) (Fa b2 0 fa26_0 (Lo b2 0 (Sl y1.1.b fs.length y1.1.cap) isAgg24 Z0 rfl (WL_rd (rd_lenSV (s := (some ⟨y1.1.b, 0, none⟩, fs.length, y1.1.cap)) runUnderlying24 rfl rfl) (Bo (Iv ((i : Nat) : Int)) (Iv ((fs.length : Nat) : Int)) (.bool (decide (((i : Nat) : Int) < ((fs.length : Nat) : Int)))) eqg_int (binOp_lss _ _ _ _) (Nt ?_))))))
 cases hb3 : (decide (((i : Nat) : Int) < ((fs.length : Nat) : Int)))
 · refine WC_false rfl (WC_exit (At_thenX (At_loopX (At_blockX (At_then (Sr (WL_callQ (Δ := [(GMx gx)]) (v := .bool true) call21 rfl (c_known) (K1 Z4) (Av (.bool true) (Nr ?_)))))))))
   exact At_ret1 results4 (fun w q => ⟨rfl, q.mono (En Z4 (En Z0 D3))⟩)
 · have hil : i < fs.length := by have := of_decide_eq_true hb3; omega
   obtain ⟨f, hf⟩ : ∃ f, fs[i]? = some f := ⟨_, List.getElem?_eq_getElem hil⟩
   obtain ⟨s, hs⟩ := row_some y1.2.1 hf
   have hp := hP f (List.mem_of_getElem? hf)
   have hfk := hkl0 f (List.mem_of_getElem? hf)
   refine WC_true rfl (WC_skip (At_then (WC_seq (WC_block (Sr (Fa b2 0 fa26_0 (Lo b2 0 (Sl y1.1.b fs.length y1.1.cap) isAgg24 Z0 rfl (Mv (Iv ((i : Nat) : Int)) (WL_rd (rd_idxN (j := i) runUnderlying24 sizeOf39 rfl rfl (rfl) (hil) rfl) (WL_rd (rd_row isAgg39 sizeOf39 rfl Z1 hf hs rfl) (WL_ef (ef_alloc (l := [Iv 0, Tx [], Iv 0, .slice none 0 0, Iv 0]) zeroValue39 rfl) fun b4 => Sa b4 0 [Iv f.kind, Tx f.text, Iv f.num, slV s, Iv f.at_] sizeOf39 Z0 (.put (.put (.put (.put (.put .done))))) (Nz (Fa b4 0 fa39_0 (Lo b4 0 (Iv f.kind) isAgg3 Z0 rfl (Bo (Iv f.kind) (Iv 1) (.bool (f.kind == 1)) eqg_int (binOp_eql _ _ _ _) (Mv (.bool (f.kind == 1)) ?_))))))))))))))))
   cases hb5 : (f.kind == 1)
   · refine Ta false 37 (Fa b4 0 fa39_0 (Ta false 37 (Lo b4 0 (Iv f.kind) isAgg3 Z0 rfl (Ta false 37 (Bo (Iv f.kind) (Iv 2) (.bool (f.kind == 2)) eqg_int (binOp_eql _ _ _ _) (Pk false (Nt ?_)))))))
     cases hb6 : (f.kind == 2)
     · obtain ⟨hq1, hq2, hq3⟩ := hp.resolve_left (by rintro (q | q) <;> simp [q] at hb5 hb6)
       refine Fz (Fa b4 0 fa39_4 (Lo b4 4 (Iv f.at_) isAgg3 Z0 rfl (Bo (Iv f.at_) (Iv 0) (.bool false) eqg_int (by rw [binOp_lss]; rw [decide_eq_false (by omega)]) (Mv (.bool false) (Ta false 45 (Fa b4 0 fa39_4 (Ta false 45 (Lo b4 4 (Iv f.at_) isAgg3 Z0 rfl (Ta false 45 (Mv (slV sv) (Ta false 45 (WL_rd (rd_lenSV (s := sv) runUnderlying22 rfl hsl) (Ta false 45 (Bo (Iv f.at_) (Iv ((l.length : Nat) : Int)) (.bool false) eqg_int (by rw [binOp_gtr]; rw [decide_eq_false (by omega)]) (Pk false (Nt (Fx (Av (Iv 0) (Nt (WC_block (WC_loopF (α := Nat) (fun x => x ≤ f.kids.length) (fun x => [(0, slV sv), (2, .bool false), (3, ptr b2), (6, Iv ((i : Nat) : Int)), (7, ptr b4), (8, Iv ((x : Nat) : Int))]) (fun x => Cl b4 39 [Iv f.kind, Tx f.text, Iv f.num, slV s, Iv f.at_] :: Cl b2 26 [Sl y1.1.b fs.length y1.1.cap] :: NLo fs y1.1 :: Star KA fs y1.1.ss :: RB (slV sv) l rx :: (GMx gx) :: F) (fun x => f.kids.length - x) 0 (show 0 ≤ f.kids.length from (Nat.zero_le _)) ⟨rfl, rfl, rfl, rfl, rfl, rfl, trivial⟩ (En Z0 (En Z0 (E4 Z0 Z0 Z0 Z0))) ?_)))))))))))))))))))))
       rintro k σ hpre
       replace hpre : k ≤ f.kids.length := hpre
       show WC prog _ _ _ (upds σ [(0, slV sv), (2, .bool false), (3, ptr b2), (6, Iv ((i : Nat) : Int)), (7, ptr b4), (8, Iv ((k : Nat) : Int))]) _ (Cl b4 39 [Iv f.kind, Tx f.text, Iv f.num, slV s, Iv f.at_] :: Cl b2 26 [Sl y1.1.b fs.length y1.1.cap] :: NLo fs y1.1 :: Star KA fs y1.1.ss :: RB (slV sv) l rx :: (GMx gx) :: F)
       refine Sz (Mv (Iv ((k : Nat) : Int)) (Fa b4 0 fa39_3 (Lo b4 3 (slV s) isAgg37 Z0 rfl (WL_rd (rd_lenKids runUnderlying37 rfl Z3 hf hs) (Bo (Iv ((k : Nat) : Int)) (Iv ((f.kids.length : Nat) : Int)) (.bool (decide (((k : Nat) : Int) < ((f.kids.length : Nat) : Int)))) eqg_int (binOp_lss _ _ _ _) (Nt ?_))))))
       cases hb7 : (decide (((k : Nat) : Int) < ((f.kids.length : Nat) : Int)))
       · refine WC_false rfl (WC_exit (At_thenX (At_loopX (At_blockX (At_blockN (At_then (WC_region (Mv (Iv ((i : Nat) : Int)) (Bo (Iv ((i : Nat) : Int)) (Iv 1) (Iv (((i : Nat) : Int) + 1)) eqg_int (bin_add (by omega) (by omega)) (Av (Iv (((i : Nat) : Int) + 1)) (WL_nil ?_)))))))))))
         exact At_againF (i + 1) (show (i + 1) ≤ fs.length from (by omega)) ⟨rfl, rfl, rfl, rfl, trivial⟩ (En Z1 (En Z1 (En Z1 (En Z1 (En Z1 D1))))) (show fs.length - (i + 1) < fs.length - i by omega)
       · have hkl : k < f.kids.length := by have := of_decide_eq_true hb7; omega
         obtain ⟨c, hc⟩ : ∃ c, f.kids[k]? = some c := ⟨_, List.getElem?_eq_getElem hkl⟩
         obtain ⟨o, gg, rfl, hgf, hgq⟩ := hq3 c (List.mem_of_getElem? hc)
         obtain ⟨s2, hs2⟩ := row_some y1.2.1 hgf
         have hol := (List.getElem?_eq_some_iff.1 hgf).1
         refine WC_true rfl (WC_skip (At_then (WC_seq (WC_block (WC_seq (WC.know (fun h q => (ka_open Z3 hf hs h q).2 (by intro h; rw [h] at hkl; simp at hkl)) fun hkn => ?_))))))
         obtain ⟨kb, kc, hsk⟩ := hkn
         refine WC_draw [10] [Cl b2 26 [Sl y1.1.b fs.length y1.1.cap], Cl b4 39 [Iv f.kind, Tx f.text, Iv f.num, slV s, Iv f.at_], Star KA fs y1.1.ss, NLo fs y1.1] mixed (Dt 0 rfl rfl (Q0 (K4 Z1 Z0 Z1 Z0)) (Rf b2 0 fa26_0 rfl) (Dt 1 rfl rfl (Q0 (K4 Z1 Z0 Z1 Z0)) (Rl b2 0 (Sl y1.1.b fs.length y1.1.cap) isAgg24 rfl Z0 rfl) (Dt 2 rfl rfl (Q0 (K4 Z1 Z0 Z1 Z0)) (Rf b4 0 fa39_3 rfl) (Dt 3 rfl rfl (Q0 (K4 Z1 Z0 Z1 Z0)) (Rl b4 3 (slV s) isAgg37 rfl Z1 rfl) (Dt 4 rfl rfl (Q0 (K4 Z1 Z0 Z1 Z0)) (Rm (Iv ((k : Nat) : Int)) rfl) (Dt 5 rfl rfl (Q0 (K4 Z1 Z0 Z1 Z0)) (rd_idxK (k := k) runUnderlying37 sizeOf3 rfl hsk rfl (rfl) (hkl)) (Dt 6 rfl rfl (Q0 (K4 Z1 Z0 Z1 Z0)) (rd_ldKid isAgg3 rfl Z2 hf hs hsk hc) (Dt 7 rfl rfl (Q0 (K4 Z1 Z0 Z1 Z0)) (rd_idxN (j := o) runUnderlying24 sizeOf39 rfl rfl (rfl) (hol) rfl) (Dt 8 rfl rfl (Q0 (K4 Z1 Z0 Z1 Z0)) (rd_row isAgg39 sizeOf39 rfl Z3 hgf hs2 rfl) (WD_one 9 (by kernel_rfl) (WDO_ef rfl rfl (w_none rfl) (ef_alloc (l := [Iv 0, Tx [], Iv 0, .slice none 0 0, Iv 0]) zeroValue39 rfl) (fun _ _ => Q0 (K4 Z2 Z1 Z2 Z1)) fun b8 => WD_one 10 (by kernel_rfl) (WDO_ef0 rfl rfl (w_none rfl) (ef_store (b := b8) (o := 0) (v := .agg #[Iv gg.kind, Tx gg.text, Iv gg.num, slV s2, Iv gg.at_]) (vs := [Iv gg.kind, Tx gg.text, Iv gg.num, slV s2, Iv gg.at_]) sizeOf39 rfl rfl rfl rfl rfl Z0 (.put (.put (.put (.put (.put .done)))))) (late_vac (i := 10) (by kernel_rfl) (by decide)) ?_))))))))))))
         refine WD_done (by kernel_rfl) ?_ _
         refine At_then (Sr (Fa b8 0 fa39_0 (Lo b8 0 (Iv gg.kind) isAgg3 Z0 rfl (Bo (Iv gg.kind) (Iv 1) (.bool (gg.kind != 1)) eqg_int (binOp_neq _ _ _ _) (Mv (.bool (gg.kind != 1)) ?_)))))
         cases hb9 : (gg.kind != 1)
         · refine Pa false 71 (Pa false 71 (Pa false 71 (Pk false (Nt (WC_false rfl (WC_skip (At_blockN (At_then (WC_region (Mv (Iv ((k : Nat) : Int)) (Bo (Iv ((k : Nat) : Int)) (Iv 1) (Iv (((k : Nat) : Int) + 1)) eqg_int (bin_add (by omega) (by omega)) (Av (Iv (((k : Nat) : Int) + 1)) (WL_nil ?_)))))))))))))
           exact At_againF (k + 1) (show (k + 1) ≤ f.kids.length from (by omega)) ⟨rfl, rfl, rfl, rfl, rfl, rfl, trivial⟩ (En Z1 (En Z1 (En Z1 (En Z1 (En Z1 (En Z1 D1)))))) (show f.kids.length - (k + 1) < f.kids.length - k by omega)
         · refine Ta true 71 (Fa b8 0 fa39_0 (Ta true 71 (Lo b8 0 (Iv gg.kind) isAgg3 Z0 rfl (Ta true 71 (Bo (Iv gg.kind) (Iv 2) (.bool (gg.kind != 2)) eqg_int (binOp_neq _ _ _ _) (Pk true (Nt ?_)))))))
           cases hb10 : (gg.kind != 2)
           · refine WC_false rfl (WC_skip (At_blockN (At_then (WC_region (Mv (Iv ((k : Nat) : Int)) (Bo (Iv ((k : Nat) : Int)) (Iv 1) (Iv (((k : Nat) : Int) + 1)) eqg_int (bin_add (by omega) (by omega)) (Av (Iv (((k : Nat) : Int) + 1)) (WL_nil ?_))))))))
             exact At_againF (k + 1) (show (k + 1) ≤ f.kids.length from (by omega)) ⟨rfl, rfl, rfl, rfl, rfl, rfl, trivial⟩ (En Z1 (En Z1 (En Z1 (En Z1 (En Z1 (En Z1 D1)))))) (show f.kids.length - (k + 1) < f.kids.length - k by omega)
           · have hge := hgq.resolve_left (by rintro (q | q) <;> simp [q] at hb9 hb10)
             refine WC_true rfl (Sz (Fa b8 0 fa39_4 (Lo b8 4 (Iv gg.at_) isAgg3 Z0 rfl (Fa b4 0 fa39_4 (Lo b4 4 (Iv f.at_) isAgg3 Z1 rfl (Bo (Iv gg.at_) (Iv f.at_) (.bool false) eqg_int (by rw [binOp_lss]; rw [decide_eq_false (by omega)]) (Nt (Fs (WC_exit (At_blockY rfl (At_thenX (At_loopX (At_blockX (At_blockN (At_then (WC_region (Mv (Iv ((i : Nat) : Int)) (Bo (Iv ((i : Nat) : Int)) (Iv 1) (Iv (((i : Nat) : Int) + 1)) eqg_int (bin_add (by omega) (by omega)) (Av (Iv (((i : Nat) : Int) + 1)) (WL_nil ?_))))))))))))))))))))
             exact At_againF (i + 1) (show (i + 1) ≤ fs.length from (by omega)) ⟨rfl, rfl, rfl, rfl, trivial⟩ (En Z2 (En Z2 (En Z2 (En Z2 (En Z2 D2))))) (show fs.length - (i + 1) < fs.length - i by omega)
     · refine WC_true rfl (WC_exit (At_thenX (At_blockX (At_then (WC_region (Mv (Iv ((i : Nat) : Int)) (Bo (Iv ((i : Nat) : Int)) (Iv 1) (Iv (((i : Nat) : Int) + 1)) eqg_int (bin_add (by omega) (by omega)) (Av (Iv (((i : Nat) : Int) + 1)) (WL_nil ?_)))))))))
       exact At_againF (i + 1) (show (i + 1) ≤ fs.length from (by omega)) ⟨rfl, rfl, rfl, rfl, trivial⟩ (En Z1 (En Z1 (En Z1 (En Z1 (En Z1 D1))))) (show fs.length - (i + 1) < fs.length - i by omega)
   · refine Pa true 37 (Pa true 37 (Pa true 37 (Pk true (Nt (WC_true rfl (WC_exit (At_thenX (At_blockX (At_then (WC_region (Mv (Iv ((i : Nat) : Int)) (Bo (Iv ((i : Nat) : Int)) (Iv 1) (Iv (((i : Nat) : Int) + 1)) eqg_int (bin_add (by omega) (by omega)) (Av (Iv (((i : Nat) : Int) + 1)) (WL_nil ?_))))))))))))))
     exact At_againF (i + 1) (show (i + 1) ≤ fs.length from (by omega)) ⟨rfl, rfl, rfl, rfl, trivial⟩ (En Z1 (En Z1 (En Z1 (En Z1 (En Z1 D1))))) (show fs.length - (i + 1) < fs.length - i by omega)
theorem c_places {sv : SV} {l : Bs} : ∀ F w, Sat ([RB (slV sv) l rx, (GMx gx)] ++ F) w → Calls prog 4 [slV sv].toArray w fun e w' => e = .returned (.bool true) ∧ Sat ([RB (slV sv) l rx, (GMx gx)] ++ F) w' := fun F w s => by
 have hsl := rb_len s
 by_cases hl : 800 < l.length
 · exact c_placesL hsl hl F w s
 · have hl : l.length ≤ 800 := by omega
   obtain ⟨r, H, hz⟩ := whole_tot (l := l) (kind := 0) (by omega)
   rcases r with x | ⟨a, er⟩
   · exact c_placesO hsl hl (fs := lay x) (by unfold laidB; rw [H]) (whole_places H) (by rw [lay_len]; exact hz x rfl) (fun f hf => Nat.le_trans (lay_kids x f hf) (hz x rfl)) F w s
   · exact c_placesE hsl hl H (whole_er H) F w s
end
end Go.Proofs

namespace Go.Px
/-- all of the world but the pieces of S -/
def Rem (w0 : World) (S : List Nat) : HP := fun h => ∀ c, h c = if c ∈ S then none else hpOf w0 c
theorem sat_rem (w0 : World) : Sat [Rem w0 []] w0 := ⟨hpOf w0, fun _ => none, fun b => .inr ⟨rfl, rfl⟩, fun c => by simp, trivial⟩
theorem rem_take {w0 : World} {S : List Nat} {b : Nat} {o : Obj} (hb : w0.heap[b]? = some o) (hS : b + 1 ∉ S) : Ent [Rem w0 S] [Blk b o, Rem w0 ((b + 1) :: S)] := fun h s => by
  obtain ⟨h1, h2, d, p, _⟩ := s
  have e : hpOf w0 (b + 1) = some (.obj o) := by show (w0.heap[b]?).map Res.obj = _; rw [hb]; rfl
  refine ⟨fun c => if c = b + 1 then some (.obj o) else none, fun c => if c = b + 1 then none else h c, fun c => ?_, ⟨by simp, fun c hc => by simp [hc]⟩, fun c => if c = b + 1 then none else h1 c, fun c => if c = b + 1 then none else h2 c, fun c => ?_, fun c => ?_, trivial⟩
  · dsimp only
    by_cases hc : c = b + 1
    · right
      rw [if_pos hc, if_pos hc]
      refine ⟨rfl, ?_⟩
      have hp := p (b + 1)
      rw [if_neg hS, e] at hp
      subst hc
      rcases d (b + 1) with ⟨q, _⟩ | ⟨_, q⟩
      · rw [hp] at q; cases q
      · rw [← q, hp]
    · left
      rw [if_neg hc, if_neg hc]
      exact ⟨rfl, rfl⟩
  · dsimp only
    by_cases hc : c = b + 1
    · rw [if_pos hc, if_pos hc, if_pos hc]; exact .inl ⟨rfl, rfl⟩
    · rw [if_neg hc, if_neg hc, if_neg hc]; exact d c
  · dsimp only
    by_cases hc : c = b + 1
    · rw [if_pos hc, if_pos (by rw [hc]; simp)]
    · rw [if_neg hc, p c]
      simp only [List.mem_cons, hc, false_or]
theorem rem_keep {w0 w : World} {S : List Nat} {Γ : List HP} (s : Sat (Rem w0 S :: Γ) w) : ∀ (b : Nat) (o : Obj), b + 1 ∉ S → w0.heap[b]? = some o → w.heap[b]? = some o := fun b o hS hb => by
  obtain ⟨h1, h2, d, p, _⟩ := s
  have hp := p (b + 1)
  have e : hpOf w0 (b + 1) = some (.obj o) := by show (w0.heap[b]?).map Res.obj = _; rw [hb]; rfl
  rw [if_neg hS, e] at hp
  have e2 : hpOf w (b + 1) = (w.heap[b]?).map Res.obj := rfl
  rcases d (b + 1) with ⟨q, _⟩ | ⟨_, q⟩
  · rw [hp] at q; cases q
  · rw [hp, e2] at q
    cases h : w.heap[b]? with
    | none => rw [h] at q; cases q
    | some x => rw [h] at q; cases q; rfl
theorem rem_rest {w0 w : World} {S : List Nat} {Γ : List HP} (s : Sat (Rem w0 S :: Γ) w) (hS : 0 ∉ S) : w.os = w0.os ∧ w.output = w0.output := by
  obtain ⟨h1, h2, d, p, _⟩ := s
  have hp := p 0
  have e : hpOf w0 0 = some (.rest w0.os w0.output) := rfl
  rw [if_neg hS, e] at hp
  have e2 : hpOf w 0 = some (.rest w.os w.output) := rfl
  rcases d 0 with ⟨q, _⟩ | ⟨_, q⟩
  · rw [hp] at q; cases q
  · rw [hp, e2] at q
    simp only [Option.some.injEq, Res.rest.injEq] at q
    exact ⟨q.1.symm, q.2.symm⟩
/-- everything that was is as it was -/
def Kept (w0 w : World) : Prop := w.os = w0.os ∧ w.output = w0.output ∧ ∀ (b : Nat) (o : Obj), w0.heap[b]? = some o → w.heap[b]? = some o
theorem Kept.but {w0 w : World} (h : Kept w0 w) (may : MemPlace → Prop) : w0.keptBut w may := by
  refine ⟨h.1, h.2.1, fun i hi => ?_⟩
  have e := h.2.2 i _ (Array.getElem?_eq_getElem hi)
  rw [e, Array.getElem?_eq_getElem hi]
  cases w0.heap[i] with
  | cells c t fr => exact ⟨rfl, rfl, rfl, fun _ _ => rfl⟩
  | map es clock => exact .inr ⟨rfl, rfl⟩
  | _ => rfl
end Go.Px
namespace Go.Proofs
open Go.Px
/-- a function that takes no slice: the whole world is its frame -/
theorem frame0 {f : FuncId} {args : Array Value} {v : Value} {W : World} {gx : GX} (h0 : W.heap[0]? = some (.cells (.int .i64 gx.1 :: gx.2.1).toArray gx.2.2.1 (gx.2.2.2.1, gx.2.2.2.2)))
    (hC : ∀ F w, Sat ([(GMx gx)] ++ F) w → Calls Tryz.prog f args w fun e w' => e = .returned v ∧ Sat ([(GMx gx)] ++ F) w') : Calls Tryz.prog f args W fun e w' => e = .returned v ∧ Kept W w' := by
  refine (hC [Rem W [1]] W ((sat_rem W).mono (rem_take (b := 0) (S := []) h0 (by simp)))).mono ?_
  rintro e w' ⟨rfl, s⟩
  have s2 : Sat (Rem W [1] :: (GMx gx) :: []) w' := sep_swap s
  have hr := rem_rest s2 (by simp)
  refine ⟨rfl, hr.1, hr.2, fun b o hb => ?_⟩
  by_cases hb0 : b = 0
  · subst hb0
    rw [h0] at hb; cases hb
    exact Sat.blk s
  · exact rem_keep s2 b o (by simp; omega) hb
theorem maxLen_of {W : World} (h : W.ShapedOpen Tryz.prog) : ∃ gx : GX, W.heap[0]? = some (.cells (.int .i64 gx.1 :: gx.2.1).toArray gx.2.2.1 (gx.2.2.2.1, gx.2.2.2.2)) := by
  obtain ⟨m, hm⟩ := cell_of_shapedOpen_int (P := Tryz.prog) (g := 0) (t := 3) (zero := #[.int .i64 0]) (k := .i64) h (of_decide_eq_true (by kernel_rfl)) (by kernel_rfl) rfl (by kernel_rfl) (by kernel_rfl) Tryz.underlying3
  unfold World.cell? at hm
  cases hh : W.heap[0]? with
  | none => rw [hh] at hm; cases hm
  | some o =>
    rw [hh] at hm
    cases o with
    | cells c t fz =>
      obtain ⟨l⟩ := c
      cases l with
      | nil => simp at hm
      | cons a l =>
        have ha : a = .int .i64 m := by simpa using hm
        subst ha
        exact ⟨(m, l, t, fz.1, fz.2), rfl⟩
    | _ => cases hm
end Go.Proofs
namespace Go.Proofs.YtldagpopfebbbaaGreatDoor
open Go.Px Go.ChangeShapes Go.WideShapes Go.ChangeAt Go.RowKit
theorem own : ownKnob Tryz.prog.godebug = none := by kernel_rfl
theorem lifted_of {H : Type} {enc : TypeId × Value → H} {a : Assume} {C : Checked} {os : Os} {f : FuncId} {fn : Func} {s : ChangeSpec} {conds : List PathCond} {apart fresh handsOn again : Bool} {X : World → Array Value → Prop}
    (own : ownKnob C.prog.godebug = none) (started : os.Started) (noInit : C.prog.inits.idxOf? f = none) (hfn : C.prog.funcs[f]? = some fn)
    (witness : ∃ (w : World) (tape : Tape) (i : Input), w.os = os ∧ (w.forCall tape i).Shaped C.prog ∧ i.vars = [] ∧ Input.okWide C.prog (w.forCall tape i) .any w.heap.size f i ∧
      ((s.pre enc C.prog fn conds apart (w.forCall tape i).memory i.args ∧ X (w.forCall tape i).memory i.args) ∧ sizedMet enc C.prog fn (OpenSpec.ofChange s) apart (w.forCall tape i).memory i.args) ∧ a.holds C.prog (lone (Frame.enter C.prog f i.args .normal) [] (w.forCall tape i)))
    (contract : ∀ (W : World) (base : Nat) (args : Array Value) (ds gs : List (DataW H)) (before : List MemPlace),
      (∀ (j : Nat) t v, fn.params[j]? = some t → args[j]? = some v → Value.okWide C.prog W .any base t v) →
      DataW.Whole enc C.prog fn.params.toList s.vars apart W args.toList ds gs before → W.ShapedOpen C.prog →
      Calls C.prog f args W fun e W' => ∃ v, e = .returned v ∧ s.post enc C.prog fn apart fresh handsOn again W args v W') :
    ReturnsInHanded a C os f .any (fun w args => (s.pre enc C.prog fn conds apart w args ∧ X w args) ∧ sizedMet enc C.prog fn (OpenSpec.ofChange s) apart w args) (s.post enc C.prog fn apart fresh handsOn again) := by
  refine returnsInHanded_of_calls own started noInit witness ?_
  intro w tape i _ hsh _ hok hpre hholds
  obtain ⟨_, _, _, fn', hfn', _, _, _, _, hval⟩ := hok
  have e : fn' = fn := Option.some.inj (hfn'.symm.trans hfn)
  subst e
  obtain ⟨⟨⟨ds, gs, before, hw, hc⟩, hx⟩, hz⟩ := hpre
  have hw' := DataW.Whole.of_heap (w' := w.forCall tape i) (by rfl) hw
  refine (contract (w.forCall tape i) w.heap.size i.args ds gs before hval hw' hsh).mono fun e W' ⟨v, he, hp⟩ => ?_
  subst he
  exact ChangeSpec.post_blind hp
abbrev rangeS : ByteArray := { data := #[118, 97, 108, 117, 101, 32, 111, 117, 116, 32, 111, 102, 32, 114, 97, 110, 103, 101] }
abbrev syntaxS : ByteArray := { data := #[105, 110, 118, 97, 108, 105, 100, 32, 115, 121, 110, 116, 97, 120] }
noncomputable def low : Nat := (World.holding Tryz.prog default ⟨#[], #[], []⟩).heap.size
def put (c' : Array Value) : Obj → Obj
  | .cells _ t frozen => .cells c' t frozen
  | o => o
noncomputable def laidWorld (os : Os) : World :=
  let w0 := World.holding Tryz.prog os ⟨#[.cells #[.string syntaxS] 234, .cells #[.string rangeS] 234], #[], []⟩
  { w0 with heap := ((((w0.heap.modify 3 (put #[.iface 232 (.pointer (some ⟨low, 0, none⟩))])).modify 4 (put #[.iface 232 (.pointer (some ⟨low + 1, 0, none⟩))])).modify 5 (put #[.int .u64 1, .int .u64 10, .int .u64 100, .int .u64 1000, .int .u64 10000, .int .u64 100000, .int .u64 1000000, .int .u64 10000000, .int .u64 100000000, .int .u64 1000000000, .int .u64 10000000000, .int .u64 100000000000, .int .u64 1000000000000, .int .u64 10000000000000, .int .u64 100000000000000, .int .u64 1000000000000000, .int .u64 10000000000000000, .int .u64 100000000000000000, .int .u64 1000000000000000000, .int .u64 10000000000000000000])).modify 6 (put #[.int .u8 0, .int .u8 1, .int .u8 28, .int .u8 2, .int .u8 29, .int .u8 14, .int .u8 24, .int .u8 3, .int .u8 30, .int .u8 22, .int .u8 20, .int .u8 15, .int .u8 25, .int .u8 17, .int .u8 4, .int .u8 8, .int .u8 31, .int .u8 27, .int .u8 13, .int .u8 23, .int .u8 21, .int .u8 19, .int .u8 16, .int .u8 7, .int .u8 26, .int .u8 12, .int .u8 18, .int .u8 6, .int .u8 11, .int .u8 5, .int .u8 10, .int .u8 9])).modify 7 (put #[.int .u8 0, .int .u8 1, .int .u8 56, .int .u8 2, .int .u8 57, .int .u8 49, .int .u8 28, .int .u8 3, .int .u8 61, .int .u8 58, .int .u8 42, .int .u8 50, .int .u8 38, .int .u8 29, .int .u8 17, .int .u8 4, .int .u8 62, .int .u8 47, .int .u8 59, .int .u8 36, .int .u8 45, .int .u8 43, .int .u8 51, .int .u8 22, .int .u8 53, .int .u8 39, .int .u8 33, .int .u8 30, .int .u8 24, .int .u8 18, .int .u8 12, .int .u8 5, .int .u8 63, .int .u8 55, .int .u8 48, .int .u8 27, .int .u8 60, .int .u8 41, .int .u8 37, .int .u8 16, .int .u8 46, .int .u8 35, .int .u8 44, .int .u8 21, .int .u8 52, .int .u8 32, .int .u8 23, .int .u8 11, .int .u8 54, .int .u8 26, .int .u8 40, .int .u8 15, .int .u8 34, .int .u8 20, .int .u8 31, .int .u8 10, .int .u8 25, .int .u8 14, .int .u8 19, .int .u8 9, .int .u8 13, .int .u8 8, .int .u8 7, .int .u8 6]) }
set_option maxRecDepth 100000 in
theorem laid_met (os : Os) (args : Array Value) : laidMet Tryz.prog Rows.parseLeftRow.laid ((laidWorld os).forCall (fun _ _ => 0) ⟨#[], args, []⟩).memory :=
  laidMet_of_run' 8 (by kernel_rfl) (by kernel_rfl)
end Go.Proofs.YtldagpopfebbbaaGreatDoor

namespace Go.Proofs
open Go.Px
theorem frame1 {f : FuncId} {args : Array Value} {v : Value} {W : World} {gx : GX} {b : Nat} {ob : Obj} (h0 : W.heap[0]? = some (.cells (.int .i64 gx.1 :: gx.2.1).toArray gx.2.2.1 (gx.2.2.2.1, gx.2.2.2.2))) (hb : W.heap[b]? = some ob) (hb0 : b ≠ 0)
    (hC : ∀ F w, Sat ([Blk b ob, (GMx gx)] ++ F) w → Calls Tryz.prog f args w fun e w' => e = .returned v ∧ Sat ([Blk b ob, (GMx gx)] ++ F) w') : Calls Tryz.prog f args W fun e w' => e = .returned v ∧ Kept W w' := by
  have s0 : Sat [Blk b ob, (GMx gx), Rem W [b + 1, 1]] W := by
    have s1 := (sat_rem W).mono (rem_take (b := 0) (S := []) h0 (by simp))
    have s2 : Sat [(GMx gx), Blk b ob, Rem W [b + 1, 1]] W := sep_tail (rem_take (S := [1]) hb (by simp; omega)) s1
    exact sep_swap s2
  refine (hC [Rem W [b + 1, 1]] W s0).mono ?_
  rintro e w' ⟨rfl, s⟩
  have s : Sat [Blk b ob, (GMx gx), Rem W [b + 1, 1]] w' := s
  have s1 : Sat [(GMx gx), Blk b ob, Rem W [b + 1, 1]] w' := sep_swap s
  have s2 : Sat [Rem W [b + 1, 1], (GMx gx)] w' := sep_swap (sep_drop s)
  have hr := rem_rest s2 (by simp)
  refine ⟨rfl, hr.1, hr.2, fun c o hc => ?_⟩
  by_cases h1 : c = 0
  · subst h1
    rw [h0] at hc; cases hc
    exact Sat.blk s1
  · by_cases h2 : c = b
    · subst h2
      rw [hb] at hc; cases hc
      exact Sat.blk s
    · exact rem_keep s2 c o (by simp; omega) hc
theorem kept_same {W w : World} (h : Kept W w) {b o : Nat} (hb : b < W.heap.size) : W.sameAt w (.cell b o) := by
  show w.cell? ⟨b, o, none⟩ = W.cell? ⟨b, o, none⟩
  unfold World.cell?
  rw [h.2.2 b _ (Array.getElem?_eq_getElem hb), Array.getElem?_eq_getElem hb]
/-- the variable that the library keeps: a block of one cell -/
theorem maxLen_one {W : World} (h : W.ShapedOpen Tryz.prog) : ∃ m t fz, W.heap[0]? = some (.cells #[.int .i64 m] t fz) := by
  obtain ⟨gx, hg⟩ := maxLen_of h
  obtain ⟨cs, hh, hs, _⟩ := h.1 0 #[.int .i64 0] 3 (of_decide_eq_true (by kernel_rfl)) (by kernel_rfl)
  rw [hg] at hh
  injection hh with hh
  injection hh with h1 h2 h3
  subst h1
  rw [hg]
  have : gx.2.1 = [] := by
    have h4 : ((.int .i64 gx.1 :: gx.2.1).toArray : Array Value).size = 1 := hs
    simpa using h4
  rw [this]
  exact ⟨_, _, _, rfl⟩
end Go.Proofs
namespace Go.Proofs.YtldagpopfebbbaaGreatDoor
open Go.Px Go.ChangeShapes Go.WideShapes Go.ChangeAt Go.RowKit

set_option maxRecDepth 100000 in
theorem open_bs {H : Type} {enc : TypeId × Value → H} {W : World} {base : Nat} {v : Value} {d : DataW H} {p : List MemPlace} (hm : ∃ m t fz, W.heap[0]? = some (.cells #[.int .i64 m] t fz)) (hval : Value.okWide Tryz.prog W .any base 22 v) (h1 : DataW.Trod enc Tryz.prog W 0 (fun _ => true) true 22 v d p) :
    ∃ sv l, v = slV sv ∧ (∀ x ∈ p, ∃ xb xo, x = .cell xb xo) ∧ ((l = [] ∧ (v = .slice none 0 0 ∨ ∃ a cap, v = .slice (some a) 0 cap)) ∨
      ∃ b o cap c T fz, b ≠ 0 ∧ W.heap[b]? = some (.cells c T fz) ∧ v = .slice (some ⟨b, o, none⟩) l.length cap ∧ (c.toList.drop o).take l.length = l.map u8v) := by
  obtain ⟨a1, len, cap, rfl⟩ := okWide_slice Tryz.underlying22 hval
  obtain ⟨fuel, hf⟩ := h1
  refine ⟨(a1, len, cap), ?_⟩
  rcases open_ints Tryz.underlying22 Tryz.underlying5 (by kernel_rfl) hf with ⟨hcs, hx⟩ | ⟨a, len', cap', zs, hcs, _, hl, hm', hz, hx, hcell, hwz⟩
  · simp [Value.cells] at hcs
    obtain ⟨rfl, rfl, rfl⟩ := hcs
    simp only [Prod.mk.injEq] at hx
    obtain ⟨rfl, rfl⟩ := hx
    exact ⟨[], rfl, fun _ h => (by cases h), .inl ⟨rfl, .inl rfl⟩⟩
  · simp [Value.cells] at hcs
    obtain ⟨rfl, rfl, rfl⟩ := hcs
    simp only [Prod.mk.injEq] at hx
    obtain ⟨rfl, rfl⟩ := hx
    simp only [if_true] at hz
    have hp : ∀ x ∈ MemPlace.row a zs.length, ∃ xb xo, x = MemPlace.cell xb xo := fun x hx => by
      simp only [MemPlace.row, List.mem_map] at hx
      obtain ⟨i, _, rfl⟩ := hx
      exact ⟨_, _, rfl⟩
    by_cases h0 : len = 0
    · subst h0
      exact ⟨[], rfl, hp, .inl ⟨rfl, .inr ⟨a, cap, rfl⟩⟩⟩
    have hlen : ((zs.take len).map fun n => UInt8.ofNat n.toNat).length = len := by simp; omega
    refine ⟨(zs.take len).map fun n => UInt8.ofNat n.toNat, rfl, hp, .inr ?_⟩
    obtain ⟨b, o, spot⟩ := a
    have hspot : spot = none := by simpa [Addr.add] using World.cell?_spot (hcell 0 (by omega))
    subst hspot
    have hc0 := hcell 0 (by omega)
    rw [Addr.add_lit] at hc0
    obtain ⟨c, T, fz, hb⟩ : ∃ c T fz, W.heap[b]? = some (.cells c T fz) := by
      unfold World.cell? at hc0
      dsimp only at hc0
      split at hc0
      · rename_i c T fz e; exact ⟨c, T, fz, e⟩
      all_goals cases hc0
    have hget : ∀ j, j < len → c[o + j]? = some (.int .u8 (zs.getD j 0)) := fun j hj => by
      have := hcell j (by omega)
      rw [Addr.add_lit] at this
      unfold World.cell? at this
      dsimp only at this
      rw [hb] at this
      simpa using this
    refine ⟨b, o, cap, c, T, fz, ?_, hb, by rw [hlen], ?_⟩
    · rintro rfl
      obtain ⟨m, t, fz', hm⟩ := hm
      rw [hm] at hb
      cases hb
      have := hget 0 (by omega)
      rcases o with _ | o
      · simp at this
      · simp at this
    · rw [hlen]
      apply List.ext_getElem?
      intro j
      by_cases hj : j < len
      · rw [List.getElem?_take_of_lt hj, List.getElem?_drop, Array.getElem?_toList, hget j hj, List.getElem?_map, List.getElem?_map, List.getElem?_take_of_lt hj]
        have e : zs[j]? = some (zs.getD j 0) := by rw [List.getD_eq_getElem?_getD, List.getElem?_eq_getElem (show j < zs.length by omega)]; rfl
        have hb : 0 ≤ zs.getD j 0 ∧ zs.getD j 0 ≤ 255 := by
          have hw := hwz _ (List.mem_of_getElem? e)
          simpa [Lit.wf, IntKind.min, IntKind.max, IntKind.bits, IntKind.signed] using hw
        rw [e]
        show some (Value.int .u8 _) = some (Value.int .u8 _)
        congr 2
        rw [UInt8.toNat_ofNat']
        omega
      · rw [List.getElem?_eq_none (by simp; omega), List.getElem?_eq_none (by simp; omega)]
/-- the call of a law that takes a slice of bytes -/
theorem calls_bs {f : FuncId} {sv : SV} {l : Bs} {u : Value} {W : World} {gx : GX} (h0 : W.heap[0]? = some (.cells (.int .i64 gx.1 :: gx.2.1).toArray gx.2.2.1 (gx.2.2.2.1, gx.2.2.2.2)))
    (hl : (l = [] ∧ (slV sv = .slice none 0 0 ∨ ∃ a cap, slV sv = .slice (some a) 0 cap)) ∨ ∃ b o cap c T fz, b ≠ 0 ∧ W.heap[b]? = some (.cells c T fz) ∧ slV sv = .slice (some ⟨b, o, none⟩) l.length cap ∧ (c.toList.drop o).take l.length = l.map u8v)
    (hC : ∀ {rx : RX} F w, Sat ([RB (slV sv) l rx, (GMx gx)] ++ F) w → Calls Tryz.prog f [slV sv].toArray w fun e w' => e = .returned u ∧ Sat ([RB (slV sv) l rx, (GMx gx)] ++ F) w') : Calls Tryz.prog f [slV sv].toArray W fun e w' => e = .returned u ∧ Kept W w' := by
  rcases hl with ⟨rfl, hn⟩ | ⟨b, o, cap, c, T, fz, hb0, hb, e, he⟩
  · refine frame0 h0 fun F w s => (hC (rx := none) F w (rb_none hn _ s)).mono ?_
    rintro e w' ⟨rfl, s⟩
    exact ⟨rfl, sep_drop s⟩
  · refine frame1 h0 hb hb0 fun F w s => (hC (rx := some (b, .cells c T fz)) F w ?_).mono ?_
    · rw [e]; exact rb_some he _ s
    · rintro e w' ⟨rfl, s⟩
      exact ⟨rfl, rb_blk _ s⟩
end Go.Proofs.YtldagpopfebbbaaGreatDoor

namespace Go.Proofs.YtldagpopfebbbaaGreatDoor
open Go.Px Go.ChangeShapes Go.WideShapes Go.ChangeAt Go.RowKit
set_option maxRecDepth 100000 in
theorem places_lifted (os : Os) (started : os.Started) (H : Type) (enc : TypeId × Value → H) :
    ReturnsInHanded {} Tryz.checked os 4 .any (fun w args => (Rows.parsePlacesSpec.pre enc Tryz.prog Tryz.f4 Rows.parsePlacesRow.domain false w args ∧ laidMet Tryz.prog Rows.parsePlacesRow.laid w) ∧ sizedMet enc Tryz.prog Tryz.f4 (OpenSpec.ofChange Rows.parsePlacesSpec) false w args)
      (Rows.parsePlacesSpec.post enc Tryz.prog Tryz.f4 false true false false) := by
  refine lifted_of (C := Tryz.checked) (X := fun w _ => laidMet Tryz.prog Rows.parsePlacesRow.laid w) own started (by kernel_rfl) Tryz.func4
    (ChangeSpec.witness_at (enc := enc) (C := Tryz.checked) (os := os) (X := fun w _ => laidMet Tryz.prog Rows.parsePlacesRow.laid w) false (laidWorld os) #[.slice none 0 0] 8 rfl (by kernel_rfl) (by kernel_rfl) (by kernel_rfl) (by kernel_rfl) (by kernel_rfl) (laid_met os _)) ?_
  intro W base args ds gs before hval0 hW hsh
  have hval : ∀ (j : Nat) t v, Tryz.f4.params[j]? = some t → args[j]? = some v → Value.okWide Tryz.prog W .any base t v := hval0
  have hW' := hW
  obtain ⟨p, q, hA0, hV, rfl, hfz, hnd⟩ := hW
  have hA : DataW.TrodAll enc Tryz.prog W 0 (fun _ => true) true Tryz.f4.params.toList args.toList ds p := hA0
  rw [Tryz.params4] at hA hval
  obtain ⟨v0, d0, rfl, rfl, h0⟩ := trodAll_one hA
  obtain ⟨rfl, rfl⟩ := trodVars_none hV
  obtain ⟨sv, l, rfl, hps, hl⟩ := open_bs (maxLen_one hsh) (hval 0 22 v0 rfl rfl) h0
  obtain ⟨gx, hg⟩ := maxLen_of hsh
  refine (calls_bs hg hl fun {rx} => c_places).mono ?_
  rintro e W' ⟨rfl, hk⟩
  refine ⟨_, rfl, _, _, _, [], p, [], hW', trodAll_mk1 (shut_bool Tryz.underlying4 true), trodAll_mk1 (WideElems.Trod_stays (P := Tryz.prog) (by kernel_rfl) (by kernel_rfl) (of_decide_eq_true (by kernel_rfl)) h0 (fun x hx => ?_) (fun x hx => ?_)), rfl, hk.but _, fun h => by cases h⟩
  · obtain ⟨xb, xo, rfl⟩ := hps x hx
    exact kept_same hk (hW'.lt _ (List.mem_append_left _ hx))
  · exact decide_eq_true (hW'.lt x (List.mem_append_left _ hx))
theorem places_row : Rows.ParsePlacesSaid :=
  OpenClaim.holds_of_wide 4 Tryz.f4 rfl rfl rfl rfl rfl rfl rfl ⟨rfl, rfl, rfl, rfl, rfl⟩ rfl rfl rfl rfl rfl (by kernel_rfl) Tryz.func4 (by kernel_rfl)
    (of_decide_eq_true (by kernel_rfl)) (by unfold Func.isWrapper; first | (rw [if_pos (by decide +kernel)]; kernel_rfl) | (rw [if_neg (by decide +kernel)]; exact ⟨rfl, rfl⟩))
    (fun os started H enc _ => places_lifted os started H enc)
theorem places_holds : Rows.ParsePlacesCardSaid :=
  Claim7.holds_tied_plain_at .later [] [.data, .data, .data, .sentinel, .sentinel] true (true, "fabbca7475e12f51d7834343e6111eabd2fa15b7b88547ffaa62aaa041ae6fe1") true
    places_row (fun _ h => by cases h) (by kernel_rfl) (fun _ h => by cases h) parsePlaces_row_tie rfl ⟨rfl, rfl⟩ (by kernel_rfl) rfl
    (fun f fn hf hfn => by
      obtain rfl : f = 4 := Option.some.inj ((show Tryz.prog.funcNamed "shuck/shucklaw4.ParsePlaces" = some 4 by kernel_rfl).symm.trans hf) |>.symm
      obtain rfl : fn = Tryz.f4 := (Option.some.inj (Tryz.func4.symm.trans hfn)).symm
      exact ⟨by kernel_rfl, fun j t ht => by
        rw [Tryz.params4] at ht
        have h3 : t = 22 := by
          rcases j with _ | j
          · simpa using ht.symm
          · simp at ht
        subst h3
        exact (show Tryz.prog.wantsStandIn 22 = false by kernel_rfl)⟩)
    (by kernel_rfl)
#print axioms places_holds
end Go.Proofs.YtldagpopfebbbaaGreatDoor
