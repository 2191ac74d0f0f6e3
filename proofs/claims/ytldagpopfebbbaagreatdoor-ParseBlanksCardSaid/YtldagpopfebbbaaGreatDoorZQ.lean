/- A list of bytes that is owned, read as a slice; an empty list made; trees that are the same but for places. -/
import Derived.Test.YtldagpopfebbbaaGreatDoorZP
import Derived.Test.YtldagpopfebbbaaGreatDoorZO
import Derived.Test.YtldagpopfebbbaaGreatDoorTie
import Derived.Test.YtldagpopfebbbaaGreatDoorCards
import Derived.ProofKit
import Derived.LaidLaws
import Derived.Handed
import Derived.HandedShaped
import Derived.Shelf.Vars
import Derived.RowKit
import Derived.ChangeSlices
import Derived.WideKeyArgs
set_option linter.unusedVariables false
set_option linter.unusedSimpArgs false
namespace Go.Proofs
open Go.Px Tryz
attribute [local semireducible] WL WC At WD
theorem by_rb {v : SV} {s : Bs} {Γ : List HP} {w : World} (q : Sat (BY v s :: Γ) w) : ∃ ry, Sat (RB (slV v) s ry :: Γ) w := by
 obtain ⟨s1, s2, s3⟩ := v
 obtain ⟨h1, h2, d, p, q2⟩ := q
 obtain ⟨_, ⟨e, h0⟩ | ⟨b, cap, sp, e, hmc, hcm, hcs, hb⟩⟩ := p
 · have e : Value.slice s1 s2 s3 = _ := e
   cases e
   have hs : s = [] := List.eq_nil_of_length_eq_zero h0
   subst hs
   exact ⟨none, h1, h2, d, ⟨rfl, .inl rfl⟩, q2⟩
 have e : Value.slice s1 s2 s3 = _ := e
 cases e
 refine ⟨some (b, .cells (s.map u8v ++ sp).toArray 5 (0, 0)), h1, h2, d, ⟨hb, 0, _, _, _, _, rfl, rfl, ?_⟩, q2⟩
 rw [List.drop_zero]
 show (s.map u8v ++ sp).take s.length = _
 rw [List.take_append_of_le_length (by simp), List.take_of_length_le (by simp)]
section
variable {P : Program} {n : Nat} {Q : Post} {ρ : Env} {ds : List Deferred} {Γ Γ' : List HP}
theorem WC_byrb {c : Code} {v : SV} {s : Bs} (hs : Sel Γ (BY v s) Γ') (h : ∀ ry, WC P n c Q ρ ds (RB (slV v) s ry :: Γ')) : WC P n c Q ρ ds Γ := fun w q => by
 obtain ⟨ry, q⟩ := by_rb (q.mono hs.ent)
 exact h ry w q
end
section
variable {n : Nat} {ρ : Env} {Γ : List HP} {d : Option Tmp} {ty : TypeId} {pos : String} {af : Array Edge} {gd : Option (Nat × Bool)}
theorem ef_make0 : Ef prog n ρ ⟨d, .buildSlice 22 0 #[], ty, pos, af, gd⟩ Γ (fun b : Nat => slV (some ⟨b, 0, none⟩, 0, 0)) (fun b => BY (some ⟨b, 0, none⟩, 0, 0) [] :: Γ) := fun w q => by
 obtain ⟨b, w', hr, hS⟩ := ef_buildSlice (P := prog) (n := n) (ρ := ρ) (d := d) (ty := ty) (pos := pos) (af := af) (gd := gd) (Γ := Γ) (T := 22) (len := 0) (parts := []) (E := 5) (vs := []) (l := []) rfl (fun w => by simp [Instr.buildSlice, Instr.fill, newRow, newObj, Sem.run, Array.range_zero']) w q
 exact ⟨b, w', hr, arr_of_cl (T := 5) (sz := 1) (m := 0) (by decide) rfl _ _ hS⟩
end
def erF (f : FN) : FN := ⟨f.kind, f.text, f.num, f.kids, 0⟩
mutual
theorem er_size : ∀ x : PT, (erP x).size = x.size
 | .node k s n a l => by unfold erP PT.size; rw [ers_size l]
theorem ers_size : ∀ l : List PT, sizes (erPs l) = sizes l
 | [] => rfl
 | x :: l => by unfold erPs sizes; rw [er_size x, ers_size l]
end
theorem er_kidsAt : ∀ (l : List PT) (b : Nat), kidsAt (erPs l) b = kidsAt l b
 | [], b => rfl
 | x :: l, b => by unfold erPs kidsAt; rw [er_size, er_kidsAt l]
mutual
theorem er_flat : ∀ (x : PT) (b : Nat), flat (erP x) b = (flat x b).map erF
 | .node k s n a l, b => by
  unfold erP flat
  rw [List.map_cons, er_kidsAt, er_flats l]; rfl
theorem er_flats : ∀ (l : List PT) (b : Nat), flats (erPs l) b = (flats l b).map erF
 | [], b => rfl
 | x :: l, b => by unfold erPs flats; rw [er_flat x, er_flats l, er_size, List.map_append]
end
theorem same_lay {x y : PT} (h : rP x y) : (lay x).length = (lay y).length ∧ ∀ (j : Nat) f g, (lay x)[j]? = some f → (lay y)[j]? = some g → SameF f g := by
 refine ⟨by rw [lay_len, lay_len, ← er_size x, ← er_size y, h], fun j f g hf hg => ?_⟩
 have e : (lay x).map erF = (lay y).map erF := by rw [lay_flat, lay_flat, ← er_flat, ← er_flat, h]
 have e2 : ((lay x).map erF)[j]? = ((lay y).map erF)[j]? := by rw [e]
 rw [List.getElem?_map, List.getElem?_map, hf, hg] at e2
 have e3 : erF f = erF g := Option.some.inj e2
 injection e3 with a1 a2 a3 a4 _
 exact ⟨a1, a2, a3, a4⟩
theorem same_inl {x : PT} {z : Option (PT ⊕ (Int × Int))} (h : SameW (some (.inl x)) z) : ∃ y, z = some (.inl y) ∧ rP x y := by
 rcases z with _ | y | e
 · exact h.elim
 · exact ⟨y, rfl, h⟩
 exact h.elim
theorem same_inr {a er : Int} {z : Option (PT ⊕ (Int × Int))} (h : SameW (some (.inr (a, er))) z) : ∃ b, z = some (.inr (b, er)) := by
 rcases z with _ | y | ⟨b, e⟩
 · exact h.elim
 · exact h.elim
 have h : er = e := h
 subst h; exact ⟨b, rfl⟩
end Go.Proofs

namespace Go.Proofs
open Go.Px Tryz
def prA : PT ⊕ (Int × Int) → Int
 | .inl _ => 0
 | .inr (a, _) => a
def prE : PT ⊕ (Int × Int) → Int
 | .inl _ => 0
 | .inr (_, e) => e
def PR : PT ⊕ (Int × Int) → SV → HP
 | .inl x, sn => NL (lay x) sn
 | .inr _, sn => Pr (sn = (none, 0, 0))
variable {gx : GX} {rx : RX}
theorem c_any {sv : SV} {l : Bs} {kind : Nat} {r : PT ⊕ (Int × Int)} (hk : kind ≤ 2) (hl : l.length ≤ 2000) (H : wholeB l KF NF kind = some r) : ∀ F w, Sat ([RB (slV sv) l rx, (GMx gx)] ++ F) w → Calls prog (entryOf kind) [slV sv].toArray w fun e w' =>
 ∃ sn : SV, e = .returned (.tuple #[.agg #[slV sn], .int .i64 (prA r), .int .i64 (prE r)]) ∧ Sat ([PR r sn, RB (slV sv) l rx, (GMx gx)] ++ F) w' := fun F w s => by
 refine (c_entry hk hl H F w s).mono ?_
 rcases r with x | ⟨a, er⟩
 · rintro e w' ⟨sn, rfl, q⟩
   exact ⟨sn, rfl, q⟩
 rintro e w' ⟨rfl, q⟩
 exact ⟨(none, 0, 0), rfl, ent_pure rfl _ _ q⟩
theorem c_sameA {r r2 : PT ⊕ (Int × Int)} {sn sm : SV} (h : SameW (some r) (some r2)) (hsz : ∀ x, r = .inl x → x.size ≤ 200000) : ∀ F w, Sat ([PR r sn, PR r2 sm] ++ F) w → Calls prog 27 [.agg #[slV sn], .agg #[slV sm]].toArray w fun e w' => e = .returned (.bool true) ∧ Sat ([] ++ F) w' := fun F w s => by
 rcases r with x | ⟨a, e1⟩ <;> rcases r2 with y | ⟨b, e2⟩
 · have s1 : Sat (NL (lay x) sn :: NL (lay y) sm :: F) w := s
   obtain ⟨y1, rfl, _, hy, s2⟩ := nl_open (lay_ne x) s1
   have s3 : Sat (NL (lay y) sm :: Cl y1.b 39 ((nrows (lay x) y1.ss).flatten ++ y1.sp) :: Star KA (lay x) y1.ss :: F) w := s2.mono (Sels.ent (Δ := [NL (lay y) sm, Cl y1.b 39 ((nrows (lay x) y1.ss).flatten ++ y1.sp), Star KA (lay x) y1.ss]) (.cons (.succ (.succ .zero)) (.cons .zero (.cons .zero .nil))))
   obtain ⟨z1, rfl, _, hz, s4⟩ := nl_open (lay_ne y) s3
   have s5 : Sat ([NLo (lay x) y1, Star KA (lay x) y1.ss, NLo (lay y) z1, Star KA (lay y) z1.ss] ++ F) w := s4.mono (Sels.ent (Δ := [NLo (lay x) y1, Star KA (lay x) y1.ss, NLo (lay y) z1, Star KA (lay y) z1.ss]) (.cons (.succ (.succ .zero)) (.cons (.succ (.succ .zero)) (.cons .zero (.cons .zero .nil)))))
   have hs := same_lay (x := x) (y := y) h
   refine (c_same hy hz hs.1 (by rw [lay_len]; exact hsz x rfl) hs.2 (fun f hf => Nat.le_trans (lay_kids x f hf) (hsz x rfl)) F w s5).mono ?_
   rintro e w' ⟨rfl, q⟩
   exact ⟨rfl, sep_drop (sep_drop (sep_drop (sep_drop q)))⟩
 · exact h.elim
 · exact h.elim
 obtain ⟨_, _, _, p, _⟩ := id s
 obtain ⟨_, _, _, p2, _⟩ := sep_drop s
 have p : sn = (none, 0, 0) := p
 have p2 : sm = (none, 0, 0) := p2
 subst p p2
 exact c_same0 F w (sep_drop (sep_drop s))
theorem same_any {r : PT ⊕ (Int × Int)} {z : Option (PT ⊕ (Int × Int))} (h : SameW (some r) z) : ∃ r2, z = some r2 ∧ SameW (some r) (some r2) ∧ prE r = prE r2 := by
 rcases r with x | ⟨a, er⟩
 · obtain ⟨y, rfl, h2⟩ := same_inl h
   exact ⟨.inl y, rfl, h2, rfl⟩
 obtain ⟨b, rfl⟩ := same_inr h
 exact ⟨.inr (b, er), rfl, rfl, rfl⟩
end Go.Proofs

namespace Go.Proofs
open Go.Px Tryz
section
variable {pb tb cap K : Nat} {L : List Tk} {g : NT → M PT} {gx : GX} {rx : RX}
theorem c_blanksL {sv : SV} {l : Bs} (n : Int) (rm : Bool) (hsl : (sv.2.1 : Int) = ((l.length : Nat) : Int)) (hcap : sv.2.1 ≤ sv.2.2) (hl : 800 < l.length) : ∀ F w, Sat ([RB (slV sv) l rx, (GMx gx)] ++ F) w → Calls prog 10 [slV sv, Iv n, .bool rm].toArray w fun e w' => e = .returned (.bool true) ∧ Sat ([RB (slV sv) l rx, (GMx gx)] ++ F) w' := by
 intro F
 refine calls_of_WC (fn := f10) func10 rfl rfl (Sr (Av (.bool false) (Nz (Mv (slV sv) (WL_rd (rd_lenSV (s := sv) runUnderlying22 rfl hsl) (Bo (Iv l.length) (Iv 800) (.bool true) eqg_int (by rw [binOp_gtr]; rw [decide_eq_true (by omega)]) (Nt (Ts (Av (.bool true) (Nr (At_thenR ?_)))))))))))
 exact At_ret1 results10 (fun w q => ⟨rfl, q.mono (E2 Z0 Z0)⟩)
theorem c_blanksX {sv : SV} {l : Bs} (n : Int) (rm : Bool) (hsl : (sv.2.1 : Int) = ((l.length : Nat) : Int)) (hcap : sv.2.1 ≤ sv.2.2) (hl : l.length ≤ 800) {a er : Int} (hT : tokensB l KF = some (.inr (a, er))) (her : er ≠ 0) : ∀ F w, Sat ([RB (slV sv) l rx, (GMx gx)] ++ F) w → Calls prog 10 [slV sv, Iv n, .bool rm].toArray w fun e w' => e = .returned (.bool true) ∧ Sat ([RB (slV sv) l rx, (GMx gx)] ++ F) w' := by
 intro F
 refine calls_of_WC (fn := f10) func10 rfl rfl (Sr (Av (.bool false) (Nz (Mv (slV sv) (WL_rd (rd_lenSV (s := sv) runUnderlying22 rfl hsl) (Bo (Iv l.length) (Iv 800) (.bool false) eqg_int (by rw [binOp_gtr]; rw [decide_eq_false (by omega)]) (Nt (Fx (Mv (slV sv) (WL_callQ (Δ := [RB (slV sv) l rx, (GMx gx)]) (v := .tuple #[.slice none 0 0, Iv a, Iv er]) call26 rfl (c_tokensE (by omega) hT) (K2 Z0 Z0) (Mv (.tuple #[.slice none 0 0, Iv a, Iv er]) (Xt (.slice none 0 0) (Xt (Iv a) (Xt (Iv er) (Av (.slice none 0 0) (Av (Iv a) (Av (Iv er) (Nz (Mv (Iv er) (Bo (Iv er) (Iv 0) (.bool true) eqg_int (by rw [binOp_neq]; rw [bne_iff_ne.2 her]) (Mv (.bool true) (Pa true 29 (Pa true 29 (Pa true 29 (Pk true (Nt (Ts (WL_callQ (Δ := [(GMx gx)]) (v := .bool true) call21 rfl (c_known) (K1 Z1) (Av (.bool true) (Nr (At_thenR ?_)))))))))))))))))))))))))))))))
 exact At_ret1 results10 (fun w q => ⟨rfl, q.mono (E2 Z1 Z0)⟩)
theorem c_blanksP {sv : SV} {l : Bs} (n : Int) (rm : Bool) (hsl : (sv.2.1 : Int) = ((l.length : Nat) : Int)) (hcap : sv.2.1 ≤ sv.2.2) (hl : l.length ≤ 800) {ts : List Tk} (hT : tokensB l KF = some (.inl ts)) (hne : ts ≠ []) (htl : ts.length ≤ 100000) (hpos : ∀ (q : Nat) tk, ts[q]? = some tk → ∃ p : Nat, tk.pos = (p : Int) ∧ p ≤ l.length) (hB : ∀ (q p : Nat) tk, ts[q]? = some tk → tk.pos = (p : Int) → SameW (wholeB l KF NF 0) (wholeB (l.take p ++ (gapB rm ++ l.drop p)) KF NF 0)) {r : PT ⊕ (Int × Int)} (H : wholeB l KF NF 0 = some r) (hsz : ∀ x, r = .inl x → x.size ≤ 200000) : ∀ F w, Sat ([RB (slV sv) l rx, (GMx gx)] ++ F) w → Calls prog 10 [slV sv, Iv n, .bool rm].toArray w fun e w' => e = .returned (.bool true) ∧ Sat ([RB (slV sv) l rx, (GMx gx)] ++ F) w' := by
 intro F
 have h0 : 0 < ts.length := List.length_pos_iff.2 hne
 have tm : -((ts.length : Nat) : Int) < n.tmod ((ts.length : Nat) : Int) ∧ n.tmod ((ts.length : Nat) : Int) < ((ts.length : Nat) : Int) := ⟨by have := Int.lt_tmod_of_pos n (show (0:Int) < ((ts.length : Nat) : Int) by omega); omega, Int.tmod_lt_of_pos n (by omega)⟩
 obtain ⟨ra, hra⟩ : ∃ r, n.tmod ((ts.length : Nat) : Int) = r := ⟨_, rfl⟩
 rw [hra] at tm
 refine calls_of_WC (fn := f10) func10 rfl rfl (Sr (Av (.bool false) (Nz (Mv (slV sv) (WL_rd (rd_lenSV (s := sv) runUnderlying22 rfl hsl) (Bo (Iv l.length) (Iv 800) (.bool false) eqg_int (by rw [binOp_gtr]; rw [decide_eq_false (by omega)]) (Nt (Fx (Mv (slV sv) (WL_callX (α := Nat × Nat) (Δ0 := [RB (slV sv) l rx, (GMx gx)]) (Δ := fun x1 => [TB x1.1 ts, RB (slV sv) l rx, (GMx gx)]) (v := fun x1 => .tuple #[Sl x1.1 ts.length x1.2, Iv 0, Iv 0]) call26 rfl (c_tokensT (by omega) hT hne) (K2 Z0 Z0) fun x1 => Mv (.tuple #[Sl x1.1 ts.length x1.2, Iv 0, Iv 0]) (Xt (Sl x1.1 ts.length x1.2) (Xt (Iv 0) (Xt (Iv 0) (Av (Sl x1.1 ts.length x1.2) (Av (Iv 0) (Av (Iv 0) (Nz (Mv (Iv 0) (Bo (Iv 0) (Iv 0) (.bool false) eqg_int (by rw [binOp_neq]; rfl) (Mv (.bool false) (Ta false 29 (Mv (Sl x1.1 ts.length x1.2) (Ta false 29 (WL_rd (rd_lenSV (s := (some ⟨x1.1, 0, none⟩, ts.length, x1.2)) runUnderlying43 rfl rfl) (Ta false 29 (Bo (Iv ts.length) (Iv 0) (.bool false) eqg_int (by rw [binOp_eql]; rw [beq_eq_false_iff_ne.2 (by omega)]) (Pk false (Nt (Fx (Mv (Iv n) (Mv (Sl x1.1 ts.length x1.2) (WL_rd (rd_lenSV (s := (some ⟨x1.1, 0, none⟩, ts.length, x1.2)) runUnderlying43 rfl rfl) (Bo (Iv n) (Iv ts.length) (Iv ra) eqg_int ((bin_rem (by omega)).trans (by rw [hra])) (Av (Iv ra) (Nt ?_)))))))))))))))))))))))))))))))))))
 refine WC_join (α := Nat) (fun x => x < ts.length) (fun x => [(0, slV sv), (2, .bool rm), (7, Sl x1.1 ts.length x1.2), (10, Iv x)]) (fun x => TB x1.1 ts :: RB (slV sv) l rx :: (GMx gx) :: F) ?_ ?_
 · refine Sr (Mv (Iv ra) (Bo (Iv ra) (Iv 0) (.bool (decide (ra < 0))) eqg_int (binOp_lss _ _ _ _) (Nt ?_)))
   cases hb2 : (decide (ra < 0))
   · have gra := of_decide_eq_false hb2
     refine WC_false rfl (WC_skip ?_)
     obtain ⟨z, hz, hz9⟩ : ∃ z : Nat, ra = (z : Int) ∧ z < ts.length := ⟨(ra).toNat, by omega, by omega⟩
     exact At_join z (show z < ts.length from hz9) ⟨rfl, rfl, rfl, congrArg (Value.int .i64) hz, trivial⟩ (E3 Z0 Z0 Z0)
   have gra := of_decide_eq_true hb2
   refine Tr (Mv (Iv ra) (Mv (Sl x1.1 ts.length x1.2) (WL_rd (rd_lenSV (s := (some ⟨x1.1, 0, none⟩, ts.length, x1.2)) runUnderlying43 rfl rfl) (Bo (Iv ra) (Iv ts.length) (Iv (ra + ((ts.length : Nat) : Int))) eqg_int (bin_add (by omega) (by omega)) (Av (Iv (ra + ((ts.length : Nat) : Int))) (WL_nil ?_))))))
   obtain ⟨z, hz, hz9⟩ : ∃ z : Nat, ra + ((ts.length : Nat) : Int) = (z : Int) ∧ z < ts.length := ⟨(ra + ((ts.length : Nat) : Int)).toNat, by omega, by omega⟩
   exact At_join z (show z < ts.length from hz9) ⟨rfl, rfl, rfl, congrArg (Value.int .i64) hz, trivial⟩ (E3 Z0 Z0 Z0)
 rintro k σ hpre
 replace hpre : k < ts.length := hpre
 have hkt := hpre
 obtain ⟨tk, htk⟩ : ∃ t, ts[k]? = some t := ⟨_, List.getElem?_eq_getElem hkt⟩
 obtain ⟨p, hp, hpl⟩ := hpos k tk htk
 show WC prog _ _ _ (upds σ [(0, slV sv), (2, .bool rm), (7, Sl x1.1 ts.length x1.2), (10, Iv k)]) _ (TB x1.1 ts :: RB (slV sv) l rx :: (GMx gx) :: F)
 refine Sz (Mv (Sl x1.1 ts.length x1.2) (Mv (Iv k) (WL_rd (rd_tokAddr (j := k) rfl rfl rfl hkt) (Fa x1.1 (0 + k * 4) fa47_0 (WL_rd (rd_ldKindT (j := k) (L := ts) (t := tk) isAgg3 rfl Z0 htk) (Bo (Iv tk.kind) (Iv 7) (.bool (tk.kind == 7)) eqg_int (binOp_eql _ _ _ _) (Mv (.bool (tk.kind == 7)) ?_)))))))
 cases hb3 : (tk.kind == 7)
 rotate_left 1
 · refine Pa true 51 (Pa true 51 (Pa true 51 (Pa true 51 (Pa true 51 (Pa true 51 (Pk true (Nt (Ts (WL_callQ (Δ := [(GMx gx)]) (v := .bool true) call21 rfl (c_known) (K1 Z2) (Av (.bool true) (Nr (At_thenR ?_))))))))))))
   exact At_ret1 results10 (fun w q => ⟨rfl, q.mono (En Z2 (En Z0 D1))⟩)
 refine Ta false 51 (Mv (Sl x1.1 ts.length x1.2) (Ta false 51 (Mv (Iv k) (Ta false 51 (WL_rd (rd_tokAddr (j := k) rfl rfl rfl hkt) (Ta false 51 (Fa x1.1 (0 + k * 4) fa47_0 (Ta false 51 (WL_rd (rd_ldKindT (j := k) (L := ts) (t := tk) isAgg3 rfl Z0 htk) (Ta false 51 (Bo (Iv tk.kind) (Iv 8) (.bool (tk.kind == 8)) eqg_int (binOp_eql _ _ _ _) (Pk false (Nt ?_)))))))))))))
 cases hb4 : (tk.kind == 8)
 rotate_left 1
 · refine Ts (WL_callQ (Δ := [(GMx gx)]) (v := .bool true) call21 rfl (c_known) (K1 Z2) (Av (.bool true) (Nr (At_thenR ?_))))
   exact At_ret1 results10 (fun w q => ⟨rfl, q.mono (En Z2 (En Z0 D1))⟩)
 refine Fx (Av (Tx [32, 10, 32]) (Nt ?_))
 refine WC_join (α := Unit) (fun x => True) (fun x => [(0, slV sv), (7, Sl x1.1 ts.length x1.2), (10, Iv k), (11, Tx (gapB rm))]) (fun x => TB x1.1 ts :: RB (slV sv) l rx :: (GMx gx) :: F) ?_ ?_
 · refine Sr (Mv (.bool rm) (Nt ?_))
   cases hb5 : (rm)
   · refine WC_false rfl (WC_skip ?_)
     exact At_join () (show True from trivial) ⟨rfl, rfl, rfl, rfl, trivial⟩ (E3 Z0 Z0 Z0)
   refine Tr (Av (Tx [32, 47, 42, 32, 59, 32, 42, 47, 32]) (WL_nil ?_))
   exact At_join () (show True from trivial) ⟨rfl, rfl, rfl, rfl, trivial⟩ (E3 Z0 Z0 Z0)
 rintro _ σ hpre
 replace hpre : True := hpre
 have hg9 : (gapB rm).length ≤ 9 := by cases rm <;> decide
 show WC prog _ _ _ (upds σ [(0, slV sv), (7, Sl x1.1 ts.length x1.2), (10, Iv k), (11, Tx (gapB rm))]) _ (TB x1.1 ts :: RB (slV sv) l rx :: (GMx gx) :: F)
 refine WC_seq (WC_draw [19] [TB x1.1 ts] mixed (Dt 1 rfl rfl (Q0 (K1 Z0)) (Rm (slV sv) rfl) (Dt 2 rfl rfl (Q0 (K1 Z0)) (Rm (Sl x1.1 ts.length x1.2) rfl) (Dt 3 rfl rfl (Q0 (K1 Z0)) (Rm (Iv k) rfl) (Dt 4 rfl rfl (Q0 (K1 Z0)) (rd_tokAddr (j := k) rfl rfl rfl hkt) (Dt 5 rfl rfl (Q0 (K1 Z0)) (Rf x1.1 (0 + k * 4) fa47_2 rfl) (Dt 6 rfl rfl (Q0 (K1 Z0)) (rd_ldPos (j := k) (L := ts) (t := tk) isAgg3 rfl Z0 htk) (Dt 7 rfl rfl (Q0 (K1 Z0)) (rd_partHi (p := p) runUnderlying22 sizeOf5 rfl rfl hp (by omega)) (Dt 9 rfl rfl (Q0 (K1 Z0)) (Rm (Tx (gapB rm)) rfl) (Dt 11 rfl rfl (Q0 (K1 Z0)) (Rm (slV sv) rfl) (Dt 12 rfl rfl (Q0 (K1 Z0)) (Rm (Sl x1.1 ts.length x1.2) rfl) (Dt 13 rfl rfl (Q0 (K1 Z0)) (Rm (Iv k) rfl) (Dt 14 rfl rfl (Q0 (K1 Z0)) (rd_tokAddr (j := k) rfl rfl rfl hkt) (Dt 15 rfl rfl (Q0 (K1 Z0)) (Rf x1.1 (0 + k * 4) fa47_2 rfl) (Dt 16 rfl rfl (Q0 (K1 Z0)) (rd_ldPos (j := k) (L := ts) (t := tk) isAgg3 rfl Z0 htk) (Dt 17 rfl rfl (Q0 (K1 Z0)) (rd_partLo (p := p) runUnderlying22 sizeOf5 rfl rfl hp (by omega)) (WD_one 0 (by kernel_rfl) (WDO_ef rfl rfl (w_none rfl) (ef_make0) (fun _ _ => Q0 (K1 Z1)) fun b6 => WD_one 8 (by kernel_rfl) (WDO_ef rfl rfl (w_none rfl) (ef_appPart (i := 0) (j := p) (s := []) (l := l) rfl rfl (K2 Z0 Z1) (by omega) (by omega) (by omega) (by simp only [List.length_append, List.length_drop, List.length_take, List.length_nil]; omega)) (fun _ _ => Q0 (K1 Z2)) fun v7 => WD_one 10 (by kernel_rfl) (WDO_ef rfl rfl (w_none rfl) (ef_appBs (s := ([] ++ (l.take p).drop 0)) (a := (gapB rm)) rfl rfl Z0 (by simp only [List.length_append, List.length_drop, List.length_take, List.length_nil]; omega)) (fun _ _ => Q0 (K1 Z2)) fun v8 => WD_one 18 (by kernel_rfl) (WDO_ef rfl rfl (w_none rfl) (ef_appPart (i := p) (j := sv.2.1) (s := (([] ++ (l.take p).drop 0) ++ (gapB rm))) (l := l) rfl rfl (K2 Z0 Z0) (by omega) (by omega) (by omega) (by simp only [List.length_append, List.length_drop, List.length_take, List.length_nil]; omega)) (fun _ _ => Q0 (K1 Z2)) fun v9 => WD_one 19 (by kernel_rfl) (WDO_rd rfl rfl (w_none rfl) (Ra (slV v9) rfl) (late_vac (i := 19) (by kernel_rfl) (by decide)) ?_))))))))))))))))))))))
 refine WD_done (by kernel_rfl) ?_ _
 refine At_then (Sr (Mv (slV sv) (WL_callX (α := SV) (Δ0 := [RB (slV sv) l rx, (GMx gx)]) (Δ := fun sn10 => [PR r sn10, RB (slV sv) l rx, (GMx gx)]) (v := fun sn10 => .tuple #[.agg #[slV sn10], Iv (prA r), Iv (prE r)]) call16 rfl (c_any (sv := sv) (kind := 0) (by decide) (by omega) H) (K2 Z1 Z2) fun sn10 => Mv (.tuple #[.agg #[slV sn10], Iv (prA r), Iv (prE r)]) (Xt (.agg #[slV sn10]) (Xt (Iv (prA r)) (Xt (Iv (prE r)) (WL_ef (ef_alloc (l := [.slice none 0 0]) zeroValue26 rfl) fun b11 => Sa b11 0 [slV sn10] sizeOf26 Z0 (.put .done) (Av (Iv (prA r)) (Av (Iv (prE r)) (Nt (WC_seq (WC_byrb Z4 fun ry => ?_))))))))))))
 have htc : ((([] ++ (l.take p).drop 0) ++ gapB rm) ++ (l.take sv.2.1).drop p).length ≤ 2000 := by simp only [List.length_append, List.length_drop, List.length_take, List.length_nil]; omega
 have hTC : ((([] ++ (l.take p).drop 0) ++ gapB rm) ++ (l.take sv.2.1).drop p) = l.take p ++ (gapB rm ++ l.drop p) := by rw [show sv.2.1 = l.length by omega, List.take_length, List.nil_append, List.drop_zero, List.append_assoc]
 have hs9 := hB k p tk htk hp
 rw [← hTC, H] at hs9
 obtain ⟨r2, hy9, hs9, hE9⟩ := same_any hs9
 refine WC_region (Mv (slV v9) (WL_callX (α := SV) (Δ0 := [RB (slV v9) ((([] ++ (l.take p).drop 0) ++ gapB rm) ++ (l.take sv.2.1).drop p) ry, (GMx gx)]) (Δ := fun sn12 => [PR r2 sn12, RB (slV v9) ((([] ++ (l.take p).drop 0) ++ gapB rm) ++ (l.take sv.2.1).drop p) ry, (GMx gx)]) (v := fun sn12 => .tuple #[.agg #[slV sn12], Iv (prA r2), Iv (prE r2)]) call16 rfl (c_any (sv := v9) (kind := 0) (by decide) htc hy9) (K2 Z0 Z3) fun sn12 => Mv (.tuple #[.agg #[slV sn12], Iv (prA r2), Iv (prE r2)]) (Xt (.agg #[slV sn12]) (Xt (Iv (prA r2)) (Xt (Iv (prE r2)) (WL_ef (ef_alloc (l := [.slice none 0 0]) zeroValue26 rfl) fun b13 => Sa b13 0 [slV sn12] sizeOf26 Z0 (.put .done) (Av (Iv (prA r2)) (Av (Iv (prE r2)) (Ny (Mv (Iv (prE r)) (Mv (Iv (prE r2)) (Bo (Iv (prE r)) (Iv (prE r2)) (.bool true) eqg_int (by rw [binOp_eql]; rw [hE9, beq_self_eq_true]) (Mv (.bool true) (Ta true 95 (WL_rd (rd_loadN (b := b11) (o := 0) (vs := [slV sn10]) isAgg26 sizeOf26 rfl Z4 rfl rfl) (Ta true 95 (WL_rd (rd_loadN (b := b13) (o := 0) (vs := [slV sn12]) isAgg26 sizeOf26 rfl Z0 rfl rfl) (Ta true 95 (WL_callP (Δ0 := [PR r sn10, PR r2 sn12]) (Δ := []) (v := .bool true) call27 rfl (c_sameA hs9 hsz) (K2 (.succ Z4) Z1) (Pk true (Mv (.bool true) (Ta true 100 (WL_callQ (Δ := [(GMx gx)]) (v := .bool true) call21 rfl (c_known) (K1 Z2) (Pk true (Av (.bool true) (Nr ?_))))))))))))))))))))))))))
 exact At_ret1 results10 (fun w q => ⟨rfl, q.mono (En Z4 (En Z0 D4))⟩)
theorem c_blanksAll {sv : SV} {l : Bs} (n : Int) (rm : Bool) (hcap : sv.2.1 ≤ sv.2.2) : ∀ F w, Sat ([RB (slV sv) l rx, (GMx gx)] ++ F) w → Calls prog 10 [slV sv, Iv n, .bool rm].toArray w fun e w' => e = .returned (.bool true) ∧ Sat ([RB (slV sv) l rx, (GMx gx)] ++ F) w' := fun F w s => by
 have hsl := rb_len s
 by_cases hl : 800 < l.length
 · exact c_blanksL n rm hsl hcap hl F w s
 have hl : l.length ≤ 800 := by omega
 obtain ⟨r, H, hz⟩ := whole_tot (l := l) (kind := 0) (by omega)
 rcases hT : tokensB l KF with _ | ts | ⟨a, er⟩
 rotate_left 2
 · exact c_blanksX n rm hsl hcap hl hT (by have := tokensB_err hT; omega) F w s
 · unfold wholeB at H; rw [hT] at H; cases H
 have hf := tokensB_f hT
 have hne : ts ≠ [] := by
  obtain ⟨t, h, _⟩ := hf.2.1
  rintro rfl; cases h
 have hpos : ∀ (q : Nat) tk, ts[q]? = some tk → ∃ p : Nat, tk.pos = (p : Int) ∧ p ≤ l.length := fun q tk hq => by
  have := hf.1 tk (List.mem_of_getElem? hq)
  exact ⟨tk.pos.toNat, by omega, by omega⟩
 have hB := fun (q p : Nat) tk (hq : ts[q]? = some tk) (hp : tk.pos = (p : Int)) => blanks_law rm hl hT hq hp 0
 have htl : ts.length ≤ 100000 := by have := hf.2.2.2; omega
 exact c_blanksP n rm hsl hcap hl hT hne htl hpos hB H hz F w s
end
end Go.Proofs

namespace Go.Px
def Rem (w0 : World) (S : List Nat) : HP := fun h => ∀ c, h c = if c ∈ S then none else hpOf w0 c
theorem sat_rem (w0 : World) : Sat [Rem w0 []] w0 := ⟨hpOf w0, fun _ => none, fun b => .inr ⟨rfl, rfl⟩, fun c => by simp, trivial⟩
theorem rem_take {w0 : World} {S : List Nat} {b : Nat} {o : Obj} (hb : w0.heap[b]? = some o) (hS : b + 1 ∉ S) : Ent [Rem w0 S] [Blk b o, Rem w0 ((b + 1) :: S)] := fun h s => by
  obtain ⟨h1, h2, d, p, _⟩ := s
  have e : hpOf w0 (b + 1) = some (.obj o) := by show (w0.heap[b]?).map Res.obj = _; rw [hb]; rfl
  refine ⟨fun c => if c = b + 1 then some (.obj o) else none, fun c => if c = b + 1 then none else h c, fun c => ?_, ⟨by simp, fun c hc => by simp [hc]⟩, fun c => if c = b + 1 then none else h1 c, fun c => if c = b + 1 then none else h2 c, fun c => ?_, fun c => ?_, trivial⟩
  rotate_left 1
  · dsimp only
    by_cases hc : c = b + 1
    · rw [if_pos hc, if_pos hc, if_pos hc]; exact .inl ⟨rfl, rfl⟩
    rw [if_neg hc, if_neg hc, if_neg hc]; exact d c
  · dsimp only
    by_cases hc : c = b + 1
    · rw [if_pos hc, if_pos (by rw [hc]; simp)]
    rw [if_neg hc, p c]
    simp only [List.mem_cons, hc, false_or]
  dsimp only
  by_cases hc : c = b + 1
  rotate_left 1
  · left
    rw [if_neg hc, if_neg hc]
    exact ⟨rfl, rfl⟩
  right
  rw [if_pos hc, if_pos hc]
  refine ⟨rfl, ?_⟩
  have hp := p (b + 1)
  rw [if_neg hS, e] at hp
  subst hc
  rcases d (b + 1) with ⟨q, _⟩ | ⟨_, q⟩
  · rw [hp] at q; cases q
  rw [← q, hp]
theorem rem_keep {w0 w : World} {S : List Nat} {Γ : List HP} (s : Sat (Rem w0 S :: Γ) w) : ∀ (b : Nat) (o : Obj), b + 1 ∉ S → w0.heap[b]? = some o → w.heap[b]? = some o := fun b o hS hb => by
  obtain ⟨h1, h2, d, p, _⟩ := s
  have hp := p (b + 1)
  have e : hpOf w0 (b + 1) = some (.obj o) := by show (w0.heap[b]?).map Res.obj = _; rw [hb]; rfl
  rw [if_neg hS, e] at hp
  have e2 : hpOf w (b + 1) = (w.heap[b]?).map Res.obj := rfl
  rcases d (b + 1) with ⟨q, _⟩ | ⟨_, q⟩
  · rw [hp] at q; cases q
  rw [hp, e2] at q
  cases h : w.heap[b]? with
  | none => rw [h] at q; cases q
  | some x => rw [h] at q; cases q; rfl
theorem rem_rest {w0 w : World} {S : List Nat} {Γ : List HP} (s : Sat (Rem w0 S :: Γ) w) (hS : 0 ∉ S) : w.os = w0.os ∧ w.output = w0.output := by
  obtain ⟨h1, h2, d, p, _⟩ := s
  have hp := p 0
  have e : hpOf w0 0 = some (.rest w0.os w0.output) := rfl
  rw [if_neg hS, e] at hp
  have e2 : hpOf w 0 = some (.rest w.os w.output) := rfl
  rcases d 0 with ⟨q, _⟩ | ⟨_, q⟩
  · rw [hp] at q; cases q
  rw [hp, e2] at q
  simp only [Option.some.injEq, Res.rest.injEq] at q
  exact ⟨q.1.symm, q.2.symm⟩
def Kept (w0 w : World) : Prop := w.os = w0.os ∧ w.output = w0.output ∧ ∀ (b : Nat) (o : Obj), w0.heap[b]? = some o → w.heap[b]? = some o
theorem Kept.but {w0 w : World} (h : Kept w0 w) (may : MemPlace → Prop) : w0.keptBut w may := by
  refine ⟨h.1, h.2.1, fun i hi => ?_⟩
  have e := h.2.2 i _ (Array.getElem?_eq_getElem hi)
  rw [e, Array.getElem?_eq_getElem hi]
  cases w0.heap[i] with
  | cells c t fr => exact ⟨rfl, rfl, rfl, fun _ _ => rfl⟩
  | map es clock => exact .inr ⟨rfl, rfl⟩
  | _ => rfl
end Go.Px
namespace Go.Proofs
open Go.Px
theorem frame0 {f : FuncId} {args : Array Value} {v : Value} {W : World} {gx : GX} (h0 : W.heap[0]? = some (.cells (.int .i64 gx.1 :: gx.2.1).toArray gx.2.2.1 (gx.2.2.2.1, gx.2.2.2.2)))
    (hC : ∀ F w, Sat ([(GMx gx)] ++ F) w → Calls Tryz.prog f args w fun e w' => e = .returned v ∧ Sat ([(GMx gx)] ++ F) w') : Calls Tryz.prog f args W fun e w' => e = .returned v ∧ Kept W w' := by
  refine (hC [Rem W [1]] W ((sat_rem W).mono (rem_take (b := 0) (S := []) h0 (by simp)))).mono ?_
  rintro e w' ⟨rfl, s⟩
  have s2 : Sat (Rem W [1] :: (GMx gx) :: []) w' := sep_swap s
  have hr := rem_rest s2 (by simp)
  refine ⟨rfl, hr.1, hr.2, fun b o hb => ?_⟩
  by_cases hb0 : b = 0
  · subst hb0
    rw [h0] at hb; cases hb
    exact Sat.blk s
  exact rem_keep s2 b o (by simp; omega) hb
theorem maxLen_of {W : World} (h : W.ShapedOpen Tryz.prog) : ∃ gx : GX, W.heap[0]? = some (.cells (.int .i64 gx.1 :: gx.2.1).toArray gx.2.2.1 (gx.2.2.2.1, gx.2.2.2.2)) := by
  obtain ⟨m, hm⟩ := cell_of_shapedOpen_int (P := Tryz.prog) (g := 0) (t := 3) (zero := #[.int .i64 0]) (k := .i64) h (of_decide_eq_true (by kernel_rfl)) (by kernel_rfl) rfl (by kernel_rfl) (by kernel_rfl) Tryz.underlying3
  unfold World.cell? at hm
  cases hh : W.heap[0]? with
  | none => rw [hh] at hm; cases hm
  | some o =>
    rw [hh] at hm
    cases o with
    | cells c t fz =>
      obtain ⟨l⟩ := c
      cases l with
      | nil => simp at hm
      | cons a l =>
        have ha : a = .int .i64 m := by simpa using hm
        subst ha
        exact ⟨(m, l, t, fz.1, fz.2), rfl⟩
    | _ => cases hm
end Go.Proofs
namespace Go.Proofs.YtldagpopfebbbaaGreatDoor
open Go.Px Go.ChangeShapes Go.WideShapes Go.ChangeAt Go.RowKit
theorem own : ownKnob Tryz.prog.godebug = none := by kernel_rfl
theorem lifted_of {H : Type} {enc : TypeId × Value → H} {a : Assume} {C : Checked} {os : Os} {f : FuncId} {fn : Func} {s : ChangeSpec} {conds : List PathCond} {apart fresh handsOn again : Bool} {X : World → Array Value → Prop}
    (own : ownKnob C.prog.godebug = none) (started : os.Started) (noInit : C.prog.inits.idxOf? f = none) (hfn : C.prog.funcs[f]? = some fn)
    (witness : ∃ (w : World) (tape : Tape) (i : Input), w.os = os ∧ (w.forCall tape i).Shaped C.prog ∧ i.vars = [] ∧ Input.okWide C.prog (w.forCall tape i) .any w.heap.size f i ∧
      ((s.pre enc C.prog fn conds apart (w.forCall tape i).memory i.args ∧ X (w.forCall tape i).memory i.args) ∧ sizedMet enc C.prog fn (OpenSpec.ofChange s) apart (w.forCall tape i).memory i.args) ∧ a.holds C.prog (lone (Frame.enter C.prog f i.args .normal) [] (w.forCall tape i)))
    (contract : ∀ (W : World) (base : Nat) (args : Array Value) (ds gs : List (DataW H)) (before : List MemPlace),
      (∀ (j : Nat) t v, fn.params[j]? = some t → args[j]? = some v → Value.okWide C.prog W .any base t v) →
      DataW.Whole enc C.prog fn.params.toList s.vars apart W args.toList ds gs before → W.ShapedOpen C.prog →
      Calls C.prog f args W fun e W' => ∃ v, e = .returned v ∧ s.post enc C.prog fn apart fresh handsOn again W args v W') :
    ReturnsInHanded a C os f .any (fun w args => (s.pre enc C.prog fn conds apart w args ∧ X w args) ∧ sizedMet enc C.prog fn (OpenSpec.ofChange s) apart w args) (s.post enc C.prog fn apart fresh handsOn again) := by
  refine returnsInHanded_of_calls own started noInit witness ?_
  intro w tape i _ hsh _ hok hpre hholds
  obtain ⟨_, _, _, fn', hfn', _, _, _, _, hval⟩ := hok
  have e : fn' = fn := Option.some.inj (hfn'.symm.trans hfn)
  subst e
  obtain ⟨⟨⟨ds, gs, before, hw, hc⟩, hx⟩, hz⟩ := hpre
  have hw' := DataW.Whole.of_heap (w' := w.forCall tape i) (by rfl) hw
  refine (contract (w.forCall tape i) w.heap.size i.args ds gs before hval hw' hsh).mono fun e W' ⟨v, he, hp⟩ => ?_
  subst he
  exact ChangeSpec.post_blind hp
abbrev rangeS : ByteArray := { data := #[118, 97, 108, 117, 101, 32, 111, 117, 116, 32, 111, 102, 32, 114, 97, 110, 103, 101] }
abbrev syntaxS : ByteArray := { data := #[105, 110, 118, 97, 108, 105, 100, 32, 115, 121, 110, 116, 97, 120] }
noncomputable def low : Nat := (World.holding Tryz.prog default ⟨#[], #[], []⟩).heap.size
def put (c' : Array Value) : Obj → Obj
  | .cells _ t frozen => .cells c' t frozen
  | o => o
noncomputable def laidWorld (os : Os) : World :=
  let w0 := World.holding Tryz.prog os ⟨#[.cells #[.string syntaxS] 234, .cells #[.string rangeS] 234], #[], []⟩
  { w0 with heap := ((((w0.heap.modify 3 (put #[.iface 232 (.pointer (some ⟨low, 0, none⟩))])).modify 4 (put #[.iface 232 (.pointer (some ⟨low + 1, 0, none⟩))])).modify 5 (put #[.int .u64 1, .int .u64 10, .int .u64 100, .int .u64 1000, .int .u64 10000, .int .u64 100000, .int .u64 1000000, .int .u64 10000000, .int .u64 100000000, .int .u64 1000000000, .int .u64 10000000000, .int .u64 100000000000, .int .u64 1000000000000, .int .u64 10000000000000, .int .u64 100000000000000, .int .u64 1000000000000000, .int .u64 10000000000000000, .int .u64 100000000000000000, .int .u64 1000000000000000000, .int .u64 10000000000000000000])).modify 6 (put #[.int .u8 0, .int .u8 1, .int .u8 28, .int .u8 2, .int .u8 29, .int .u8 14, .int .u8 24, .int .u8 3, .int .u8 30, .int .u8 22, .int .u8 20, .int .u8 15, .int .u8 25, .int .u8 17, .int .u8 4, .int .u8 8, .int .u8 31, .int .u8 27, .int .u8 13, .int .u8 23, .int .u8 21, .int .u8 19, .int .u8 16, .int .u8 7, .int .u8 26, .int .u8 12, .int .u8 18, .int .u8 6, .int .u8 11, .int .u8 5, .int .u8 10, .int .u8 9])).modify 7 (put #[.int .u8 0, .int .u8 1, .int .u8 56, .int .u8 2, .int .u8 57, .int .u8 49, .int .u8 28, .int .u8 3, .int .u8 61, .int .u8 58, .int .u8 42, .int .u8 50, .int .u8 38, .int .u8 29, .int .u8 17, .int .u8 4, .int .u8 62, .int .u8 47, .int .u8 59, .int .u8 36, .int .u8 45, .int .u8 43, .int .u8 51, .int .u8 22, .int .u8 53, .int .u8 39, .int .u8 33, .int .u8 30, .int .u8 24, .int .u8 18, .int .u8 12, .int .u8 5, .int .u8 63, .int .u8 55, .int .u8 48, .int .u8 27, .int .u8 60, .int .u8 41, .int .u8 37, .int .u8 16, .int .u8 46, .int .u8 35, .int .u8 44, .int .u8 21, .int .u8 52, .int .u8 32, .int .u8 23, .int .u8 11, .int .u8 54, .int .u8 26, .int .u8 40, .int .u8 15, .int .u8 34, .int .u8 20, .int .u8 31, .int .u8 10, .int .u8 25, .int .u8 14, .int .u8 19, .int .u8 9, .int .u8 13, .int .u8 8, .int .u8 7, .int .u8 6]) }
set_option maxRecDepth 100000 in
theorem laid_met (os : Os) (args : Array Value) : laidMet Tryz.prog Rows.parseLeftRow.laid ((laidWorld os).forCall (fun _ _ => 0) ⟨#[], args, []⟩).memory :=
  laidMet_of_run' 8 (by kernel_rfl) (by kernel_rfl)
end Go.Proofs.YtldagpopfebbbaaGreatDoor

namespace Go.Proofs
open Go.Px
theorem frame1 {f : FuncId} {args : Array Value} {v : Value} {W : World} {gx : GX} {b : Nat} {ob : Obj} (h0 : W.heap[0]? = some (.cells (.int .i64 gx.1 :: gx.2.1).toArray gx.2.2.1 (gx.2.2.2.1, gx.2.2.2.2))) (hb : W.heap[b]? = some ob) (hb0 : b ≠ 0)
    (hC : ∀ F w, Sat ([Blk b ob, (GMx gx)] ++ F) w → Calls Tryz.prog f args w fun e w' => e = .returned v ∧ Sat ([Blk b ob, (GMx gx)] ++ F) w') : Calls Tryz.prog f args W fun e w' => e = .returned v ∧ Kept W w' := by
  have s0 : Sat [Blk b ob, (GMx gx), Rem W [b + 1, 1]] W := by
    have s1 := (sat_rem W).mono (rem_take (b := 0) (S := []) h0 (by simp))
    have s2 : Sat [(GMx gx), Blk b ob, Rem W [b + 1, 1]] W := sep_tail (rem_take (S := [1]) hb (by simp; omega)) s1
    exact sep_swap s2
  refine (hC [Rem W [b + 1, 1]] W s0).mono ?_
  rintro e w' ⟨rfl, s⟩
  have s : Sat [Blk b ob, (GMx gx), Rem W [b + 1, 1]] w' := s
  have s1 : Sat [(GMx gx), Blk b ob, Rem W [b + 1, 1]] w' := sep_swap s
  have s2 : Sat [Rem W [b + 1, 1], (GMx gx)] w' := sep_swap (sep_drop s)
  have hr := rem_rest s2 (by simp)
  refine ⟨rfl, hr.1, hr.2, fun c o hc => ?_⟩
  by_cases h1 : c = 0
  · subst h1
    rw [h0] at hc; cases hc
    exact Sat.blk s1
  by_cases h2 : c = b
  · subst h2
    rw [hb] at hc; cases hc
    exact Sat.blk s
  exact rem_keep s2 c o (by simp; omega) hc
theorem kept_same {W w : World} (h : Kept W w) {b o : Nat} (hb : b < W.heap.size) : W.sameAt w (.cell b o) := by
  show w.cell? ⟨b, o, none⟩ = W.cell? ⟨b, o, none⟩
  unfold World.cell?
  rw [h.2.2 b _ (Array.getElem?_eq_getElem hb), Array.getElem?_eq_getElem hb]
theorem maxLen_one {W : World} (h : W.ShapedOpen Tryz.prog) : ∃ m t fz, W.heap[0]? = some (.cells #[.int .i64 m] t fz) := by
  obtain ⟨gx, hg⟩ := maxLen_of h
  obtain ⟨cs, hh, hs, _⟩ := h.1 0 #[.int .i64 0] 3 (of_decide_eq_true (by kernel_rfl)) (by kernel_rfl)
  rw [hg] at hh
  injection hh with hh
  injection hh with h1 h2 h3
  subst h1
  rw [hg]
  have : gx.2.1 = [] := by
    have h4 : ((.int .i64 gx.1 :: gx.2.1).toArray : Array Value).size = 1 := hs
    simpa using h4
  rw [this]
  exact ⟨_, _, _, rfl⟩
end Go.Proofs
namespace Go.Proofs.YtldagpopfebbbaaGreatDoor
open Go.Px Go.ChangeShapes Go.WideShapes Go.ChangeAt Go.RowKit

set_option maxRecDepth 100000 in
theorem open_bs {H : Type} {enc : TypeId × Value → H} {W : World} {base : Nat} {v : Value} {d : DataW H} {p : List MemPlace} (hm : ∃ m t fz, W.heap[0]? = some (.cells #[.int .i64 m] t fz)) (hval : Value.okWide Tryz.prog W .any base 22 v) (h1 : DataW.Trod enc Tryz.prog W 0 (fun _ => true) true 22 v d p) :
    ∃ sv l, v = slV sv ∧ sv.2.1 ≤ sv.2.2 ∧ (∀ x ∈ p, ∃ xb xo, x = .cell xb xo) ∧ ((l = [] ∧ (v = .slice none 0 0 ∨ ∃ a cap, v = .slice (some a) 0 cap)) ∨
      ∃ b o cap c T fz, b ≠ 0 ∧ W.heap[b]? = some (.cells c T fz) ∧ v = .slice (some ⟨b, o, none⟩) l.length cap ∧ (c.toList.drop o).take l.length = l.map u8v) := by
  obtain ⟨a1, len, cap, rfl⟩ := okWide_slice Tryz.underlying22 hval
  obtain ⟨fuel, hf⟩ := h1
  refine ⟨(a1, len, cap), ?_⟩
  rcases open_ints Tryz.underlying22 Tryz.underlying5 (by kernel_rfl) hf with ⟨hcs, hx⟩ | ⟨a, len', cap', zs, hcs, _, hl, hm', hz, hx, hcell, hwz⟩
  · simp [Value.cells] at hcs
    obtain ⟨rfl, rfl, rfl⟩ := hcs
    simp only [Prod.mk.injEq] at hx
    obtain ⟨rfl, rfl⟩ := hx
    exact ⟨[], rfl, Nat.le_refl _, fun _ h => (by cases h), .inl ⟨rfl, .inl rfl⟩⟩
  simp [Value.cells] at hcs
  obtain ⟨rfl, rfl, rfl⟩ := hcs
  simp only [Prod.mk.injEq] at hx
  obtain ⟨rfl, rfl⟩ := hx
  simp only [if_true] at hz
  have hp : ∀ x ∈ MemPlace.row a zs.length, ∃ xb xo, x = MemPlace.cell xb xo := fun x hx => by
    simp only [MemPlace.row, List.mem_map] at hx
    obtain ⟨i, _, rfl⟩ := hx
    exact ⟨_, _, rfl⟩
  by_cases h0 : len = 0
  · subst h0
    exact ⟨[], rfl, hl, hp, .inl ⟨rfl, .inr ⟨a, cap, rfl⟩⟩⟩
  have hlen : ((zs.take len).map fun n => UInt8.ofNat n.toNat).length = len := by simp; omega
  refine ⟨(zs.take len).map fun n => UInt8.ofNat n.toNat, rfl, hl, hp, .inr ?_⟩
  obtain ⟨b, o, spot⟩ := a
  have hspot : spot = none := by simpa [Addr.add] using World.cell?_spot (hcell 0 (by omega))
  subst hspot
  have hc0 := hcell 0 (by omega)
  rw [Addr.add_lit] at hc0
  obtain ⟨c, T, fz, hb⟩ : ∃ c T fz, W.heap[b]? = some (.cells c T fz) := by
    unfold World.cell? at hc0
    dsimp only at hc0
    split at hc0
    · rename_i c T fz e; exact ⟨c, T, fz, e⟩
    all_goals cases hc0
  have hget : ∀ j, j < len → c[o + j]? = some (.int .u8 (zs.getD j 0)) := fun j hj => by
    have := hcell j (by omega)
    rw [Addr.add_lit] at this
    unfold World.cell? at this
    dsimp only at this
    rw [hb] at this
    simpa using this
  refine ⟨b, o, cap, c, T, fz, ?_, hb, by rw [hlen], ?_⟩
  · rintro rfl
    obtain ⟨m, t, fz', hm⟩ := hm
    rw [hm] at hb
    cases hb
    have := hget 0 (by omega)
    rcases o with _ | o
    · simp at this
    simp at this
  rw [hlen]
  apply List.ext_getElem?
  intro j
  by_cases hj : j < len
  rotate_left 1
  · rw [List.getElem?_eq_none (by simp; omega), List.getElem?_eq_none (by simp; omega)]
  rw [List.getElem?_take_of_lt hj, List.getElem?_drop, Array.getElem?_toList, hget j hj, List.getElem?_map, List.getElem?_map, List.getElem?_take_of_lt hj]
  have e : zs[j]? = some (zs.getD j 0) := by rw [List.getD_eq_getElem?_getD, List.getElem?_eq_getElem (show j < zs.length by omega)]; rfl
  have hb : 0 ≤ zs.getD j 0 ∧ zs.getD j 0 ≤ 255 := by
    have hw := hwz _ (List.mem_of_getElem? e)
    simpa [Lit.wf, IntKind.min, IntKind.max, IntKind.bits, IntKind.signed] using hw
  rw [e]
  show some (Value.int .u8 _) = some (Value.int .u8 _)
  congr 2
  rw [UInt8.toNat_ofNat']
  omega
theorem calls_bs {f : FuncId} {args : Array Value} {sv : SV} {l : Bs} {u : Value} {W : World} {gx : GX} (h0 : W.heap[0]? = some (.cells (.int .i64 gx.1 :: gx.2.1).toArray gx.2.2.1 (gx.2.2.2.1, gx.2.2.2.2)))
    (hl : (l = [] ∧ (slV sv = .slice none 0 0 ∨ ∃ a cap, slV sv = .slice (some a) 0 cap)) ∨ ∃ b o cap c T fz, b ≠ 0 ∧ W.heap[b]? = some (.cells c T fz) ∧ slV sv = .slice (some ⟨b, o, none⟩) l.length cap ∧ (c.toList.drop o).take l.length = l.map u8v)
    (hC : ∀ {rx : RX} F w, Sat ([RB (slV sv) l rx, (GMx gx)] ++ F) w → Calls Tryz.prog f args w fun e w' => e = .returned u ∧ Sat ([RB (slV sv) l rx, (GMx gx)] ++ F) w') : Calls Tryz.prog f args W fun e w' => e = .returned u ∧ Kept W w' := by
  rcases hl with ⟨rfl, hn⟩ | ⟨b, o, cap, c, T, fz, hb0, hb, e, he⟩
  · refine frame0 h0 fun F w s => (hC (rx := none) F w (rb_none hn _ s)).mono ?_
    rintro e w' ⟨rfl, s⟩
    exact ⟨rfl, sep_drop s⟩
  refine frame1 h0 hb hb0 fun F w s => (hC (rx := some (b, .cells c T fz)) F w ?_).mono ?_
  · rw [e]; exact rb_some he _ s
  rintro e w' ⟨rfl, s⟩
  exact ⟨rfl, rb_blk _ s⟩
end Go.Proofs.YtldagpopfebbbaaGreatDoor

namespace Go.Proofs.YtldagpopfebbbaaGreatDoor
open Go.Px Go.ChangeShapes Go.WideShapes Go.ChangeAt Go.RowKit
set_option maxRecDepth 100000 in
theorem blanks_lifted (os : Os) (started : os.Started) (H : Type) (enc : TypeId × Value → H) :
    ReturnsInHanded {} Tryz.checked os 10 .any (fun w args => (Rows.parseBlanksSpec.pre enc Tryz.prog Tryz.f10 Rows.parseBlanksRow.domain false w args ∧ laidMet Tryz.prog Rows.parseBlanksRow.laid w) ∧ sizedMet enc Tryz.prog Tryz.f10 (OpenSpec.ofChange Rows.parseBlanksSpec) false w args)
      (Rows.parseBlanksSpec.post enc Tryz.prog Tryz.f10 false true false false) := by
  refine lifted_of (C := Tryz.checked) (X := fun w _ => laidMet Tryz.prog Rows.parseBlanksRow.laid w) own started (by kernel_rfl) Tryz.func10
    (ChangeSpec.witness_at (enc := enc) (C := Tryz.checked) (os := os) (X := fun w _ => laidMet Tryz.prog Rows.parseBlanksRow.laid w) false (laidWorld os) #[.slice none 0 0, .int .i64 0, .bool false] 8 rfl (by kernel_rfl) (by kernel_rfl) (by kernel_rfl) (by kernel_rfl) (by kernel_rfl) (laid_met os _)) ?_
  intro W base args ds gs before hval0 hW hsh
  have hval : ∀ (j : Nat) t v, Tryz.f10.params[j]? = some t → args[j]? = some v → Value.okWide Tryz.prog W .any base t v := hval0
  have hW' := hW
  obtain ⟨p, q, hA0, hV, rfl, hfz, hnd⟩ := hW
  have hA : DataW.TrodAll enc Tryz.prog W 0 (fun _ => true) true Tryz.f10.params.toList args.toList ds p := hA0
  rw [Tryz.params10] at hA hval
  obtain ⟨v0, v1, v2, d0, d1, d2, p0, p1, p2, rfl, rfl, rfl, h0, h1, h2⟩ := trodAll_three hA
  obtain ⟨rfl, rfl⟩ := trodVars_none hV
  obtain ⟨sv, l, rfl, hcap, hps, hl⟩ := open_bs (maxLen_one hsh) (hval 0 22 v0 rfl rfl) h0
  obtain ⟨n, rfl, rfl, rfl, wn⟩ := open_int Tryz.underlying3 (hval 1 3 v1 rfl rfl) h1
  obtain ⟨rm, rfl, rfl, rfl⟩ := open_bool Tryz.underlying4 (hval 2 4 v2 rfl rfl) h2
  obtain ⟨gx, hg⟩ := maxLen_of hsh
  refine (calls_bs hg hl fun {rx} => c_blanksAll n rm hcap).mono ?_
  rintro e W' ⟨rfl, hk⟩
  refine ⟨_, rfl, _, _, _, [], p0 ++ ([] ++ []), [], hW', trodAll_mk1 (shut_bool Tryz.underlying4 true), trodAll_mk3 (WideElems.Trod_stays (P := Tryz.prog) (by kernel_rfl) (by kernel_rfl) (of_decide_eq_true (by kernel_rfl)) h0 (fun x hx => ?_) (fun x hx => ?_)) (shut_int Tryz.underlying3 wn) (shut_bool Tryz.underlying4 rm), rfl, hk.but _, fun h => by cases h⟩
  · obtain ⟨xb, xo, rfl⟩ := hps x hx
    exact kept_same hk (hW'.lt _ (List.mem_append_left _ (List.mem_append_left _ (List.mem_append_left _ hx))))
  exact decide_eq_true (hW'.lt x (List.mem_append_left _ (List.mem_append_left _ (List.mem_append_left _ hx))))
theorem blanks_row : Rows.ParseBlanksSaid :=
  OpenClaim.holds_of_wide 10 Tryz.f10 rfl rfl rfl rfl rfl rfl rfl ⟨rfl, rfl, rfl, rfl, rfl⟩ rfl rfl rfl rfl rfl (by kernel_rfl) Tryz.func10 (by kernel_rfl)
    (of_decide_eq_true (by kernel_rfl)) (by unfold Func.isWrapper; first | (rw [if_pos (by decide +kernel)]; kernel_rfl) | (rw [if_neg (by decide +kernel)]; exact ⟨rfl, rfl⟩))
    (fun os started H enc _ => blanks_lifted os started H enc)
theorem blanks_holds : Rows.ParseBlanksCardSaid :=
  Claim7.holds_tied_plain_at .later [] [.data, .data, .data, .sentinel, .sentinel] true (true, "fabbca7475e12f51d7834343e6111eabd2fa15b7b88547ffaa62aaa041ae6fe1") true
    blanks_row (fun _ h => by cases h) (by kernel_rfl) (fun _ h => by cases h) parseBlanks_row_tie rfl ⟨rfl, rfl⟩ (by kernel_rfl) rfl
    (fun f fn hf hfn => by
      obtain rfl : f = 10 := Option.some.inj ((show Tryz.prog.funcNamed "shuck/shucklaw4.ParseBlanks" = some 10 by kernel_rfl).symm.trans hf) |>.symm
      obtain rfl : fn = Tryz.f10 := (Option.some.inj (Tryz.func10.symm.trans hfn)).symm
      exact ⟨by kernel_rfl, fun j t ht => by
        rw [Tryz.params10] at ht
        have h3 : t = 22 ∨ t = 3 ∨ t = 4 := by
          rcases j with _ | _ | _ | j
          · exact .inl (by simpa using ht.symm)
          · exact .inr (.inl (by simpa using ht.symm))
          · exact .inr (.inr (by simpa using ht.symm))
          simp at ht
        rcases h3 with rfl | rfl | rfl
        · exact (show Tryz.prog.wantsStandIn 22 = false by kernel_rfl)
        · exact (show Tryz.prog.wantsStandIn 3 = false by kernel_rfl)
        exact (show Tryz.prog.wantsStandIn 4 = false by kernel_rfl)⟩)
    (by kernel_rfl)
#print axioms blanks_holds
end Go.Proofs.YtldagpopfebbbaaGreatDoor
