/- Arithmetic on bits; an element of a part of the bytes. -/
import Derived.Test.YtldagpopfebbbaaGreatDoorZH
import Derived.OwnWalk
import Derived.Lib.AppendStr
set_option linter.unusedVariables false
set_option linter.unusedSimpArgs false
namespace Go.Proofs
open Go.Px Tryz
section
variable {pb tb cap K : Nat} {L : List Tk} {g : NT → M PT} {gx : GX} {rx : RX}
theorem numV_snoc (s : Bs) (c : UInt8) : numV (s ++ [c]) = min (numV s * 10 + ((c.toNat : Int) - 48)) 9007199254740992 := by unfold numV; rw [List.foldl_append]; rfl
def seg (l : Bs) (i j : Nat) : Bs := (l.drop i).take (j - i)
theorem seg_snoc {l : Bs} {i j : Nat} {c : UInt8} (h : i ≤ j) (hc : l[j]? = some c) : seg l i (j + 1) = seg l i j ++ [c] := by
 obtain ⟨h1, h2⟩ := List.getElem?_eq_some_iff.1 hc
 unfold seg
 rw [show j + 1 - i = (j - i) + 1 by omega, List.take_add_one, List.getElem?_drop, show i + (j - i) = j by omega, hc]; rfl
theorem seg_self (l : Bs) (i : Nat) : seg l i i = [] := by unfold seg; rw [Nat.sub_self]; rfl
theorem dig_bounds {c : UInt8} (h : digitB c = true) : 48 ≤ c.toNat ∧ c.toNat ≤ 57 := by unfold digitB at h; simpa using h
theorem u8_sub {T : TypeId} {a b : Int} (h0 : 0 ≤ a - b) (h1 : a - b ≤ 255) : binOp .sub T (.int .u8 a) (.int .u8 b) = pure (.int .u8 (a - b)) := by
 rw [binOp_sub]; unfold Op.intArith; simp only; rw [IntWalk.u8_in _ ⟨h0, h1⟩]
theorem u8_is48 (c : UInt8) : (some c == some (48 : UInt8)) = (((c.toNat : Nat) : Int) == 48) := by
 rw [Bool.eq_iff_iff]
 simp only [beq_iff_eq, Option.some.injEq]
 constructor
 · rintro rfl; rfl
 intro h; apply UInt8.toNat_inj.1; show c.toNat = 48; omega
theorem run_conv {P : Program} {w : World} {S T : TypeId} {k q : IntKind} {a : Int} (g1 : P.underlying S = some (.int k)) (g2 : P.underlying T = some (.int q)) : (convert S T (.int k a)).run P w = .ok (.int q (q.wrap a)) w := by
 simp [convert, run_underlying g1, run_underlying g2, Conv.intToInt]
theorem rd_conv {n : Nat} {ρ : Env} {Γ : List HP} {d : Option Tmp} {ty : TypeId} {pos : String} {af : Array Edge} {gd : Option (Nat × Bool)} {x : Operand} {S T : TypeId} {k q : IntKind} {a b : Int} (hx : evE n ρ x = .int k a) (g1 : prog.underlying S = some (.int k)) (g2 : prog.underlying T = some (.int q)) (hw : q.wrap a = b) :
 Rd prog n ρ ⟨d, .convert S T x, ty, pos, af, gd⟩ Γ (.int q b) := fun w _ => by
 subst hw
 simp only [execOp, hx, Sem.run_bind, run_conv g1 g2, Result.andThen_ok, Sem.run_pure]
theorem c_numberS {l : Bs} {i : Nat} {sb bb cap : Nat} {sp : List Value} {so : SV} {c0 : UInt8} (hcap : l.length ≤ cap) (hl : l.length ≤ 1048576) (hc0 : l[i]? = some c0) : ∀ F w, Sat ([Cl sb 134 [Sl bb l.length cap, Iv i, slV so], Cl bb 5 (l.map u8v ++ sp)] ++ F) w → Calls prog 110 [ptr sb].toArray w fun e w' => e = .returned (tkVal (numberT l i)) ∧ Sat ([Cl sb 134 [Sl bb l.length cap, Iv i, slV so], Cl bb 5 (l.map u8v ++ sp)] ++ F) w' := by
 intro F
 have hil : i < l.length := (List.getElem?_eq_some_iff.1 hc0).1
 refine calls_of_WC (fn := f110) func110 rfl rfl (Sr (WL_ef (ef_alloc (l := [Iv 0, Tx [], Iv 0, Iv 0]) zeroValue47 rfl) fun b1 => Ny (Mv (ptr sb) (Nc sb 0 (Fa sb 0 fa134_1 (Lo sb 1 (Iv i) isAgg3 Z1 rfl (Av (Iv i) (Av (Iv 0) (Nt (WC_seq (WC_block (WC_loopF (α := Nat) (fun x => runInv digitB l i x ∧ 0 ≤ numV (seg l i x) ∧ numV (seg l i x) ≤ 9007199254740992) (fun x => [(0, ptr sb), (2, ptr b1), (3, Iv x), (4, Iv (numV (seg l i x)))]) (fun x => Cl b1 47 [Iv 0, Tx [], Iv 0, Iv 0] :: Cl sb 134 [Sl bb l.length cap, Iv i, slV so] :: Cl bb 5 (l.map u8v ++ sp) :: F) (fun x => l.length - x) i (show runInv digitB l i i ∧ 0 ≤ numV (seg l i i) ∧ numV (seg l i i) ≤ 9007199254740992 from ⟨⟨Nat.le_refl _, by omega, rfl⟩, by rw [seg_self]; decide, by rw [seg_self]; decide⟩) ⟨rfl, rfl, rfl, congrArg (Value.int .i64) (show (0 : Int) = numV (seg l i i) by rw [seg_self]; rfl), trivial⟩ (E3 Z0 Z0 Z0) ?_))))))))))))
 rintro j σ hpre
 replace hpre : runInv digitB l i j ∧ 0 ≤ numV (seg l i j) ∧ numV (seg l i j) ≤ 9007199254740992 := hpre
 obtain ⟨⟨hi1, hi2, hi3⟩, hv0, hv1⟩ := id hpre
 show WC prog _ _ _ (upds σ [(0, ptr sb), (2, ptr b1), (3, Iv j), (4, Iv (numV (seg l i j)))]) _ (Cl b1 47 [Iv 0, Tx [], Iv 0, Iv 0] :: Cl sb 134 [Sl bb l.length cap, Iv i, slV so] :: Cl bb 5 (l.map u8v ++ sp) :: F)
 refine Sz (Mv (Iv j) (Mv (ptr sb) (Nc sb 0 (Fa sb 0 fa134_0 (Lo sb 0 (Sl bb l.length cap) isAgg22 Z1 rfl (WL_rd (rd_lenS (a := some ⟨bb, 0, none⟩) (k := l.length) runUnderlying22 rfl) (Bo (Iv j) (Iv l.length) (.bool (decide (((j : Nat) : Int) < ((l.length : Nat) : Int)))) eqg_int (binOp_lss _ _ _ _) (Mv (.bool (decide (((j : Nat) : Int) < ((l.length : Nat) : Int)))) ?_))))))))
 cases hb2 : (decide (((j : Nat) : Int) < ((l.length : Nat) : Int)))
 · have hje : l.length ≤ j := by have h9 := hb2; simp only [decide_eq_false_iff_not] at h9; omega
   refine Pa false 16 (Pa false 16 (Pa false 16 (Pa false 16 (Pa false 16 (Pa false 16 (Pa false 16 (Pa false 16 (Pk false (Nt (WC_false rfl (WC_exit (At_thenX (At_loopX (At_blockX (At_then (WC_seq (WC_block (WC_seq (WC_seq ?_)))))))))))))))))))
   have hje2 : j = i + runOf digitB l i := by rw [runOf_end hje] at hi3; omega
   refine WC_region (Mv (Iv (numV (seg l i j))) (Bo (Iv (numV (seg l i j))) (Iv 9007199254740991) (.bool (decide ((numV (seg l i j)) > 9007199254740991))) eqg_int (binOp_gtr _ _ _ _) (Av (.bool (decide ((numV (seg l i j)) > 9007199254740991))) (Nt ?_))))
   cases hb3 : (decide ((numV (seg l i j)) > 9007199254740991))
   rotate_left 1
   · refine WC_true rfl (WC_skip (At_then (Ts (WL_rd (rd_build (vs := []) (v := .agg #[Iv 0, Tx [], Iv 0, Iv 0]) rfl (bd47_z )) (Sa b1 0 [Iv 0, Tx [], Iv 0, Iv 0] sizeOf47 Z0 (.put (.put (.put (.put .done)))) (Nr (At_blockR (At_thenR ?_))))))))
     refine At_retC results110 isAgg47 sizeOf47 rfl Z0 rfl (fun w q => ⟨?_, q.mono (En Z1 (En Z1 D1))⟩)
     show _ = Ending.returned (tkVal (numberT l i))
     unfold numberT
     rw [← hje2]
     show _ = Ending.returned (tkVal (bif decide (numV (seg l i j) > 9007199254740991) then _ else _))
     have g1 : decide (numV (seg l i j) > 9007199254740991) = true := by have h9 := hb3; exact h9
     have g4 : letterAt l j = false := by unfold letterAt; rw [List.getElem?_eq_none hje]
     simp only [g1, g4, cond_true, cond_false, Bool.true_and, Bool.false_and, Bool.and_true, Bool.and_false]; try rfl
   refine WC_false rfl (WC_seq (WC_draw [] [Cl sb 134 [Sl bb l.length cap, Iv i, slV so], Cl bb 5 (l.map u8v ++ sp)] mixed (Dt 0 rfl rfl (Q0 (K2 Z1 Z1)) (Rm (ptr sb) rfl) (Dt 1 rfl rfl (Q0 (K2 Z1 Z1)) (Rn sb 0 rfl) (Dt 2 rfl rfl (Q0 (K2 Z1 Z1)) (Rf sb 0 fa134_0 rfl) (Dt 3 rfl rfl (Q0 (K2 Z1 Z1)) (Rl sb 0 (Sl bb l.length cap) isAgg22 rfl Z0 rfl) (Dt 4 rfl rfl (Q0 (K2 Z1 Z1)) (Rm (ptr sb) rfl) (Dt 5 rfl rfl (Q0 (K2 Z1 Z1)) (Rn sb 0 rfl) (Dt 6 rfl rfl (Q0 (K2 Z1 Z1)) (Rf sb 0 fa134_1 rfl) (Dt 7 rfl rfl (Q0 (K2 Z1 Z1)) (Rl sb 1 (Iv i) isAgg3 rfl Z0 rfl) (Dt 8 rfl rfl (Q0 (K2 Z1 Z1)) (rd_idx1 (j := i) runUnderlying22 sizeOf5 rfl rfl (by omega) (by omega)) (Dt 9 rfl rfl (Q0 (K2 Z1 Z1)) (Rl bb i (u8v c0) isAgg5 rfl Z1 (bytes_get hc0)) (Dt 10 rfl rfl (Q0 (K2 Z1 Z1)) (Rb (.int .u8 c0.toNat) (.int .u8 48) (.bool (((c0.toNat : Nat) : Int) == 48)) rfl rfl eqg_int (binOp_eql _ _ _ _)) (Dt 11 rfl rfl (Q0 (K2 Z1 Z1)) (Rm (.bool (((c0.toNat : Nat) : Int) == 48)) rfl) ?_))))))))))))))
   cases hb4 : (((c0.toNat : Nat) : Int) == 48)
   · refine WD_skipG 12 (b' := false) (e := 55) rfl rfl (by kernel_rfl) rfl rfl rfl rfl (Q0 (K2 Z1 Z1)) (WD_skipG 13 (b' := false) (e := 55) rfl rfl (by kernel_rfl) rfl rfl rfl rfl (Q0 (K2 Z1 Z1)) (WD_skipG 14 (b' := false) (e := 55) rfl rfl (by kernel_rfl) rfl rfl rfl rfl (Q0 (K2 Z1 Z1)) (WD_skipG 15 (b' := false) (e := 55) rfl rfl (by kernel_rfl) rfl rfl rfl rfl (Q0 (K2 Z1 Z1)) (WD_skipG 16 (b' := false) (e := 55) rfl rfl (by kernel_rfl) rfl rfl rfl rfl (Q0 (K2 Z1 Z1)) (WD_skipG 17 (b' := false) (e := 55) rfl rfl (by kernel_rfl) rfl rfl rfl rfl (Q0 (K2 Z1 Z1)) (WD_skipG 18 (b' := false) (e := 55) rfl rfl (by kernel_rfl) rfl rfl rfl rfl (Q0 (K2 Z1 Z1)) (Dt 19 rfl rfl (Q0 (K2 Z1 Z1)) (rd_pick (b := false) rfl) (Dt 20 rfl rfl (Q0 (K2 Z1 Z1)) (Ra (.bool false) rfl) ?_))))))))
     refine WD_done (by kernel_rfl) ?_ _
     refine At_then (WC_false rfl (WC_region (Mv (Iv j) (Mv (ptr sb) (Nc sb 0 (Fa sb 0 fa134_0 (Lo sb 0 (Sl bb l.length cap) isAgg22 Z1 rfl (WL_rd (rd_lenS (a := some ⟨bb, 0, none⟩) (k := l.length) runUnderlying22 rfl) (Bo (Iv j) (Iv l.length) (.bool (decide (((j : Nat) : Int) < ((l.length : Nat) : Int)))) eqg_int (binOp_lss _ _ _ _) (Mv (.bool (decide (((j : Nat) : Int) < ((l.length : Nat) : Int)))) ?_))))))))))
     cases hb5 : (decide (((j : Nat) : Int) < ((l.length : Nat) : Int)))
     · have hje : l.length ≤ j := by have h9 := hb5; simp only [decide_eq_false_iff_not] at h9; omega
       refine Pa false 71 (Pa false 71 (Pa false 71 (Pa false 71 (Pa false 71 (Pa false 71 (Pa false 71 (Pa false 71 (Pk false (Av (.bool false) (Nt (WC_false rfl (WC_skip (At_blockN (At_then (Sr (Mv (ptr sb) (Mv (Iv j) (WL_callQ (Δ := [Cl sb 134 [Sl bb l.length cap, Iv i, slV so], Cl bb 5 (l.map u8v ++ sp)]) (v := .agg #[Iv ((cutT l 3 i j).kind), .string (bs (cutT l 3 i j).text), Iv ((cutT l 3 i j).pos), Iv ((cutT l 3 i j).en)]) call164 rfl (c_cut (l := l) (i := i) (j := j) hcap (by omega) (by omega)) (K2 Z1 Z1) (Sa b1 0 [Iv ((cutT l 3 i j).kind), .string (bs (cutT l 3 i j).text), Iv ((cutT l 3 i j).pos), Iv ((cutT l 3 i j).en)] sizeOf47 Z2 (.put (.put (.put (.put .done)))) (Nr ?_))))))))))))))))))))
       refine At_retC results110 isAgg47 sizeOf47 rfl Z0 rfl (fun w q => ⟨?_, q.mono (En Z1 (En Z1 D1))⟩)
       show _ = Ending.returned (tkVal (numberT l i))
       unfold numberT
       rw [← hje2]
       show _ = Ending.returned (tkVal (bif decide (numV (seg l i j) > 9007199254740991) then _ else _))
       have g1 : decide (numV (seg l i j) > 9007199254740991) = false := by have h9 := hb3; exact h9
       have g2 : (l[i]? == some 48) = false := by rw [hc0]; have h9 := hb4; exact (u8_is48 c0).trans h9
       have g4 : letterAt l j = false := by unfold letterAt; rw [List.getElem?_eq_none hje]
       simp only [g1, g2, g4, cond_true, cond_false, Bool.true_and, Bool.false_and, Bool.and_true, Bool.and_false]; try rfl
     have hjl : j < l.length := by have h9 := hb5; simp only [decide_eq_true_eq] at h9; omega
     obtain ⟨c, hc⟩ : ∃ c, l[j]? = some c := ⟨l[j]'hjl, List.getElem?_eq_getElem _⟩
     refine Ta true 71 (Mv (ptr sb) (Ta true 71 (Nc sb 0 (Ta true 71 (Fa sb 0 fa134_0 (Ta true 71 (Lo sb 0 (Sl bb l.length cap) isAgg22 Z1 rfl (Ta true 71 (Mv (Iv j) (Ta true 71 (WL_rd (rd_idx1 (j := j) runUnderlying22 sizeOf5 rfl rfl (by omega) (by omega)) (Ta true 71 (Lo bb j (u8v c) isAgg5 Z2 (bytes_get hc) (Ta true 71 (WL_callQ (Δ := []) (v := .bool (letterB c)) call107 rfl (c_letter c) (.nil) (Pk true (Av (.bool (letterB c)) (Nt ?_))))))))))))))))))
     cases hb6 : (letterB c)
     rotate_left 1
     · refine Ts (WL_rd (rd_build (vs := []) (v := .agg #[Iv 0, Tx [], Iv 0, Iv 0]) rfl (bd47_z )) (Sa b1 0 [Iv 0, Tx [], Iv 0, Iv 0] sizeOf47 Z0 (.put (.put (.put (.put .done)))) (Nr (At_blockR (At_thenR ?_)))))
       refine At_retC results110 isAgg47 sizeOf47 rfl Z0 rfl (fun w q => ⟨?_, q.mono (En Z1 (En Z1 D1))⟩)
       show _ = Ending.returned (tkVal (numberT l i))
       unfold numberT
       rw [← hje2]
       show _ = Ending.returned (tkVal (bif decide (numV (seg l i j) > 9007199254740991) then _ else _))
       have g1 : decide (numV (seg l i j) > 9007199254740991) = false := by have h9 := hb3; exact h9
       have g2 : (l[i]? == some 48) = false := by rw [hc0]; have h9 := hb4; exact (u8_is48 c0).trans h9
       have g4 : letterAt l j = true := by unfold letterAt; rw [hc]; exact hb6
       simp only [g1, g2, g4, cond_true, cond_false, Bool.true_and, Bool.false_and, Bool.and_true, Bool.and_false]; try rfl
     refine WC_false rfl (WC_skip (At_blockN (At_then (Sr (Mv (ptr sb) (Mv (Iv j) (WL_callQ (Δ := [Cl sb 134 [Sl bb l.length cap, Iv i, slV so], Cl bb 5 (l.map u8v ++ sp)]) (v := .agg #[Iv ((cutT l 3 i j).kind), .string (bs (cutT l 3 i j).text), Iv ((cutT l 3 i j).pos), Iv ((cutT l 3 i j).en)]) call164 rfl (c_cut (l := l) (i := i) (j := j) hcap (by omega) (by omega)) (K2 Z1 Z1) (Sa b1 0 [Iv ((cutT l 3 i j).kind), .string (bs (cutT l 3 i j).text), Iv ((cutT l 3 i j).pos), Iv ((cutT l 3 i j).en)] sizeOf47 Z2 (.put (.put (.put (.put .done)))) (Nr ?_)))))))))
     refine At_retC results110 isAgg47 sizeOf47 rfl Z0 rfl (fun w q => ⟨?_, q.mono (En Z1 (En Z1 D1))⟩)
     show _ = Ending.returned (tkVal (numberT l i))
     unfold numberT
     rw [← hje2]
     show _ = Ending.returned (tkVal (bif decide (numV (seg l i j) > 9007199254740991) then _ else _))
     have g1 : decide (numV (seg l i j) > 9007199254740991) = false := by have h9 := hb3; exact h9
     have g2 : (l[i]? == some 48) = false := by rw [hc0]; have h9 := hb4; exact (u8_is48 c0).trans h9
     have g4 : letterAt l j = false := by unfold letterAt; rw [hc]; exact hb6
     simp only [g1, g2, g4, cond_true, cond_false, Bool.true_and, Bool.false_and, Bool.and_true, Bool.and_false]; try rfl
   refine WD_takeG 12 (b' := true) (e := 55) rfl rfl (by kernel_rfl) rfl rfl rfl rfl (Q0 (K2 Z1 Z1)) (Rm (Iv j) rfl) (WD_takeG 13 (b' := true) (e := 55) rfl rfl (by kernel_rfl) rfl rfl rfl rfl (Q0 (K2 Z1 Z1)) (Rm (ptr sb) rfl) (WD_takeG 14 (b' := true) (e := 55) rfl rfl (by kernel_rfl) rfl rfl rfl rfl (Q0 (K2 Z1 Z1)) (Rn sb 0 rfl) (WD_takeG 15 (b' := true) (e := 55) rfl rfl (by kernel_rfl) rfl rfl rfl rfl (Q0 (K2 Z1 Z1)) (Rf sb 0 fa134_1 rfl) (WD_takeG 16 (b' := true) (e := 55) rfl rfl (by kernel_rfl) rfl rfl rfl rfl (Q0 (K2 Z1 Z1)) (Rl sb 1 (Iv i) isAgg3 rfl Z0 rfl) (WD_takeG 17 (b' := true) (e := 55) rfl rfl (by kernel_rfl) rfl rfl rfl rfl (Q0 (K2 Z1 Z1)) (Rb (Iv i) (Iv 1) (Iv (((i : Nat) : Int) + 1)) rfl rfl eqg_int (bin_add (by omega) (by omega))) (WD_takeG 18 (b' := true) (e := 55) rfl rfl (by kernel_rfl) rfl rfl rfl rfl (Q0 (K2 Z1 Z1)) (Rb (Iv j) (Iv (((i : Nat) : Int) + 1)) (.bool (decide (((j : Nat) : Int) > (((i : Nat) : Int) + 1)))) rfl rfl eqg_int (binOp_gtr _ _ _ _)) (Dt 19 rfl rfl (Q0 (K2 Z1 Z1)) (rd_pick (b := true) rfl) (Dt 20 rfl rfl (Q0 (K2 Z1 Z1)) (Ra (.bool (decide (((j : Nat) : Int) > (((i : Nat) : Int) + 1)))) rfl) ?_))))))))
   refine WD_done (by kernel_rfl) ?_ _
   refine At_then ?_
   cases hb7 : (decide (((j : Nat) : Int) > (((i : Nat) : Int) + 1)))
   rotate_left 1
   · refine WC_true rfl (WC_skip (At_then (Ts (WL_rd (rd_build (vs := []) (v := .agg #[Iv 0, Tx [], Iv 0, Iv 0]) rfl (bd47_z )) (Sa b1 0 [Iv 0, Tx [], Iv 0, Iv 0] sizeOf47 Z0 (.put (.put (.put (.put .done)))) (Nr (At_blockR (At_thenR ?_))))))))
     refine At_retC results110 isAgg47 sizeOf47 rfl Z0 rfl (fun w q => ⟨?_, q.mono (En Z1 (En Z1 D1))⟩)
     show _ = Ending.returned (tkVal (numberT l i))
     unfold numberT
     rw [← hje2]
     show _ = Ending.returned (tkVal (bif decide (numV (seg l i j) > 9007199254740991) then _ else _))
     have g1 : decide (numV (seg l i j) > 9007199254740991) = false := by have h9 := hb3; exact h9
     have g2 : (l[i]? == some 48) = true := by rw [hc0]; have h9 := hb4; exact (u8_is48 c0).trans h9
     have g3 : decide (j > i + 1) = true := by have h9 := hb7; first | (simp only [decide_eq_true_eq] at h9 ⊢; omega) | (simp only [decide_eq_false_iff_not] at h9 ⊢; omega)
     have g4 : letterAt l j = false := by unfold letterAt; rw [List.getElem?_eq_none hje]
     simp only [g1, g2, g3, g4, cond_true, cond_false, Bool.true_and, Bool.false_and, Bool.and_true, Bool.and_false]; try rfl
   refine WC_false rfl (WC_region (Mv (Iv j) (Mv (ptr sb) (Nc sb 0 (Fa sb 0 fa134_0 (Lo sb 0 (Sl bb l.length cap) isAgg22 Z1 rfl (WL_rd (rd_lenS (a := some ⟨bb, 0, none⟩) (k := l.length) runUnderlying22 rfl) (Bo (Iv j) (Iv l.length) (.bool (decide (((j : Nat) : Int) < ((l.length : Nat) : Int)))) eqg_int (binOp_lss _ _ _ _) (Mv (.bool (decide (((j : Nat) : Int) < ((l.length : Nat) : Int)))) ?_)))))))))
   cases hb8 : (decide (((j : Nat) : Int) < ((l.length : Nat) : Int)))
   · have hje : l.length ≤ j := by have h9 := hb8; simp only [decide_eq_false_iff_not] at h9; omega
     refine Pa false 71 (Pa false 71 (Pa false 71 (Pa false 71 (Pa false 71 (Pa false 71 (Pa false 71 (Pa false 71 (Pk false (Av (.bool false) (Nt (WC_false rfl (WC_skip (At_blockN (At_then (Sr (Mv (ptr sb) (Mv (Iv j) (WL_callQ (Δ := [Cl sb 134 [Sl bb l.length cap, Iv i, slV so], Cl bb 5 (l.map u8v ++ sp)]) (v := .agg #[Iv ((cutT l 3 i j).kind), .string (bs (cutT l 3 i j).text), Iv ((cutT l 3 i j).pos), Iv ((cutT l 3 i j).en)]) call164 rfl (c_cut (l := l) (i := i) (j := j) hcap (by omega) (by omega)) (K2 Z1 Z1) (Sa b1 0 [Iv ((cutT l 3 i j).kind), .string (bs (cutT l 3 i j).text), Iv ((cutT l 3 i j).pos), Iv ((cutT l 3 i j).en)] sizeOf47 Z2 (.put (.put (.put (.put .done)))) (Nr ?_))))))))))))))))))))
     refine At_retC results110 isAgg47 sizeOf47 rfl Z0 rfl (fun w q => ⟨?_, q.mono (En Z1 (En Z1 D1))⟩)
     show _ = Ending.returned (tkVal (numberT l i))
     unfold numberT
     rw [← hje2]
     show _ = Ending.returned (tkVal (bif decide (numV (seg l i j) > 9007199254740991) then _ else _))
     have g1 : decide (numV (seg l i j) > 9007199254740991) = false := by have h9 := hb3; exact h9
     have g2 : (l[i]? == some 48) = true := by rw [hc0]; have h9 := hb4; exact (u8_is48 c0).trans h9
     have g3 : decide (j > i + 1) = false := by have h9 := hb7; first | (simp only [decide_eq_true_eq] at h9 ⊢; omega) | (simp only [decide_eq_false_iff_not] at h9 ⊢; omega)
     have g4 : letterAt l j = false := by unfold letterAt; rw [List.getElem?_eq_none hje]
     simp only [g1, g2, g3, g4, cond_true, cond_false, Bool.true_and, Bool.false_and, Bool.and_true, Bool.and_false]; try rfl
   have hjl : j < l.length := by have h9 := hb8; simp only [decide_eq_true_eq] at h9; omega
   obtain ⟨c, hc⟩ : ∃ c, l[j]? = some c := ⟨l[j]'hjl, List.getElem?_eq_getElem _⟩
   refine Ta true 71 (Mv (ptr sb) (Ta true 71 (Nc sb 0 (Ta true 71 (Fa sb 0 fa134_0 (Ta true 71 (Lo sb 0 (Sl bb l.length cap) isAgg22 Z1 rfl (Ta true 71 (Mv (Iv j) (Ta true 71 (WL_rd (rd_idx1 (j := j) runUnderlying22 sizeOf5 rfl rfl (by omega) (by omega)) (Ta true 71 (Lo bb j (u8v c) isAgg5 Z2 (bytes_get hc) (Ta true 71 (WL_callQ (Δ := []) (v := .bool (letterB c)) call107 rfl (c_letter c) (.nil) (Pk true (Av (.bool (letterB c)) (Nt ?_))))))))))))))))))
   cases hb9 : (letterB c)
   rotate_left 1
   · refine Ts (WL_rd (rd_build (vs := []) (v := .agg #[Iv 0, Tx [], Iv 0, Iv 0]) rfl (bd47_z )) (Sa b1 0 [Iv 0, Tx [], Iv 0, Iv 0] sizeOf47 Z0 (.put (.put (.put (.put .done)))) (Nr (At_blockR (At_thenR ?_)))))
     refine At_retC results110 isAgg47 sizeOf47 rfl Z0 rfl (fun w q => ⟨?_, q.mono (En Z1 (En Z1 D1))⟩)
     show _ = Ending.returned (tkVal (numberT l i))
     unfold numberT
     rw [← hje2]
     show _ = Ending.returned (tkVal (bif decide (numV (seg l i j) > 9007199254740991) then _ else _))
     have g1 : decide (numV (seg l i j) > 9007199254740991) = false := by have h9 := hb3; exact h9
     have g2 : (l[i]? == some 48) = true := by rw [hc0]; have h9 := hb4; exact (u8_is48 c0).trans h9
     have g3 : decide (j > i + 1) = false := by have h9 := hb7; first | (simp only [decide_eq_true_eq] at h9 ⊢; omega) | (simp only [decide_eq_false_iff_not] at h9 ⊢; omega)
     have g4 : letterAt l j = true := by unfold letterAt; rw [hc]; exact hb9
     simp only [g1, g2, g3, g4, cond_true, cond_false, Bool.true_and, Bool.false_and, Bool.and_true, Bool.and_false]; try rfl
   refine WC_false rfl (WC_skip (At_blockN (At_then (Sr (Mv (ptr sb) (Mv (Iv j) (WL_callQ (Δ := [Cl sb 134 [Sl bb l.length cap, Iv i, slV so], Cl bb 5 (l.map u8v ++ sp)]) (v := .agg #[Iv ((cutT l 3 i j).kind), .string (bs (cutT l 3 i j).text), Iv ((cutT l 3 i j).pos), Iv ((cutT l 3 i j).en)]) call164 rfl (c_cut (l := l) (i := i) (j := j) hcap (by omega) (by omega)) (K2 Z1 Z1) (Sa b1 0 [Iv ((cutT l 3 i j).kind), .string (bs (cutT l 3 i j).text), Iv ((cutT l 3 i j).pos), Iv ((cutT l 3 i j).en)] sizeOf47 Z2 (.put (.put (.put (.put .done)))) (Nr ?_)))))))))
   refine At_retC results110 isAgg47 sizeOf47 rfl Z0 rfl (fun w q => ⟨?_, q.mono (En Z1 (En Z1 D1))⟩)
   show _ = Ending.returned (tkVal (numberT l i))
   unfold numberT
   rw [← hje2]
   show _ = Ending.returned (tkVal (bif decide (numV (seg l i j) > 9007199254740991) then _ else _))
   have g1 : decide (numV (seg l i j) > 9007199254740991) = false := by have h9 := hb3; exact h9
   have g2 : (l[i]? == some 48) = true := by rw [hc0]; have h9 := hb4; exact (u8_is48 c0).trans h9
   have g3 : decide (j > i + 1) = false := by have h9 := hb7; first | (simp only [decide_eq_true_eq] at h9 ⊢; omega) | (simp only [decide_eq_false_iff_not] at h9 ⊢; omega)
   have g4 : letterAt l j = false := by unfold letterAt; rw [hc]; exact hb9
   simp only [g1, g2, g3, g4, cond_true, cond_false, Bool.true_and, Bool.false_and, Bool.and_true, Bool.and_false]; try rfl
 have hjl : j < l.length := by have h9 := hb2; simp only [decide_eq_true_eq] at h9; omega
 obtain ⟨c, hc⟩ : ∃ c, l[j]? = some c := ⟨l[j]'hjl, List.getElem?_eq_getElem _⟩
 refine Ta true 16 (Mv (ptr sb) (Ta true 16 (Nc sb 0 (Ta true 16 (Fa sb 0 fa134_0 (Ta true 16 (Lo sb 0 (Sl bb l.length cap) isAgg22 Z1 rfl (Ta true 16 (Mv (Iv j) (Ta true 16 (WL_rd (rd_idx1 (j := j) runUnderlying22 sizeOf5 rfl rfl (by omega) (by omega)) (Ta true 16 (Lo bb j (u8v c) isAgg5 Z2 (bytes_get hc) (Ta true 16 (WL_callQ (Δ := []) (v := .bool (digitB c)) call109 rfl (c_digit c) (.nil) (Pk true (Nt ?_)))))))))))))))))
 cases hb10 : (digitB c)
 rotate_left 1
 · have hdb := dig_bounds hb10
   refine WC_true rfl (WC_skip (At_then (WC_seq (WC_block (WC_region (Mv (Iv (numV (seg l i j))) (Bo (Iv (numV (seg l i j))) (Iv 10) (Iv (numV (seg l i j) * 10)) eqg_int (bin_mul (by omega) (by omega)) (Mv (ptr sb) (Nc sb 0 (Fa sb 0 fa134_0 (Lo sb 0 (Sl bb l.length cap) isAgg22 Z1 rfl (Mv (Iv j) (WL_rd (rd_idx1 (j := j) runUnderlying22 sizeOf5 rfl rfl (by omega) (by omega)) (Lo bb j (u8v c) isAgg5 Z2 (bytes_get hc) (Bo (u8v c) (.int .u8 48) (.int .u8 (((c.toNat : Nat) : Int) - 48)) eqg_int (u8_sub (by omega) (by omega)) (WL_rd (rd_conv (a := ((c.toNat : Nat) : Int) - 48) rfl underlying5 underlying3 (IntWalk.i64_in _ ⟨by omega, by omega⟩)) (Bo (Iv (numV (seg l i j) * 10)) (Iv (((c.toNat : Nat) : Int) - 48)) (Iv ((numV (seg l i j) * 10) + (((c.toNat : Nat) : Int) - 48))) eqg_int (bin_add (by omega) (by omega)) (WL_rd (rd_minI (a := numV (seg l i j) * 10 + (((c.toNat : Nat) : Int) - 48)) (b := 9007199254740992) rfl rfl) (Av (Iv (min (numV (seg l i j) * 10 + (((c.toNat : Nat) : Int) - 48)) 9007199254740992)) (WL_nil (At_blockN (At_then (WC_region (Mv (Iv j) (Bo (Iv j) (Iv 1) (Iv (((j : Nat) : Int) + 1)) eqg_int (bin_add (by omega) (by omega)) (Av (Iv (((j : Nat) : Int) + 1)) (WL_nil ?_)))))))))))))))))))))))))))
   exact At_againF (j + 1) (⟨runInv_next hpre.1 hc hb10, by rw [seg_snoc hpre.1.1 hc, numV_snoc]; omega, by rw [seg_snoc hpre.1.1 hc, numV_snoc]; omega⟩) ⟨rfl, rfl, congrArg (Value.int .i64) (show ((j : Nat) : Int) + 1 = ((j + 1 : Nat) : Int) by omega), congrArg (Value.int .i64) (by rw [seg_snoc hpre.1.1 hc, numV_snoc]), trivial⟩ (E3 Z0 Z0 Z0) (by show l.length - (j + 1) < l.length - j; omega)
 refine WC_false rfl (WC_exit (At_thenX (At_loopX (At_blockX (At_then (WC_seq (WC_block (WC_seq (WC_seq ?_)))))))))
 have hje2 : j = i + runOf digitB l i := by rw [runOf_stop hc hb10] at hi3; omega
 refine WC_region (Mv (Iv (numV (seg l i j))) (Bo (Iv (numV (seg l i j))) (Iv 9007199254740991) (.bool (decide ((numV (seg l i j)) > 9007199254740991))) eqg_int (binOp_gtr _ _ _ _) (Av (.bool (decide ((numV (seg l i j)) > 9007199254740991))) (Nt ?_))))
 cases hb11 : (decide ((numV (seg l i j)) > 9007199254740991))
 rotate_left 1
 · refine WC_true rfl (WC_skip (At_then (Ts (WL_rd (rd_build (vs := []) (v := .agg #[Iv 0, Tx [], Iv 0, Iv 0]) rfl (bd47_z )) (Sa b1 0 [Iv 0, Tx [], Iv 0, Iv 0] sizeOf47 Z0 (.put (.put (.put (.put .done)))) (Nr (At_blockR (At_thenR ?_))))))))
   refine At_retC results110 isAgg47 sizeOf47 rfl Z0 rfl (fun w q => ⟨?_, q.mono (En Z1 (En Z1 D1))⟩)
   show _ = Ending.returned (tkVal (numberT l i))
   unfold numberT
   rw [← hje2]
   show _ = Ending.returned (tkVal (bif decide (numV (seg l i j) > 9007199254740991) then _ else _))
   have g1 : decide (numV (seg l i j) > 9007199254740991) = true := by have h9 := hb11; exact h9
   simp only [g1, cond_true, cond_false, Bool.true_and, Bool.false_and, Bool.and_true, Bool.and_false]; try rfl
 refine WC_false rfl (WC_seq (WC_draw [] [Cl sb 134 [Sl bb l.length cap, Iv i, slV so], Cl bb 5 (l.map u8v ++ sp)] mixed (Dt 0 rfl rfl (Q0 (K2 Z1 Z1)) (Rm (ptr sb) rfl) (Dt 1 rfl rfl (Q0 (K2 Z1 Z1)) (Rn sb 0 rfl) (Dt 2 rfl rfl (Q0 (K2 Z1 Z1)) (Rf sb 0 fa134_0 rfl) (Dt 3 rfl rfl (Q0 (K2 Z1 Z1)) (Rl sb 0 (Sl bb l.length cap) isAgg22 rfl Z0 rfl) (Dt 4 rfl rfl (Q0 (K2 Z1 Z1)) (Rm (ptr sb) rfl) (Dt 5 rfl rfl (Q0 (K2 Z1 Z1)) (Rn sb 0 rfl) (Dt 6 rfl rfl (Q0 (K2 Z1 Z1)) (Rf sb 0 fa134_1 rfl) (Dt 7 rfl rfl (Q0 (K2 Z1 Z1)) (Rl sb 1 (Iv i) isAgg3 rfl Z0 rfl) (Dt 8 rfl rfl (Q0 (K2 Z1 Z1)) (rd_idx1 (j := i) runUnderlying22 sizeOf5 rfl rfl (by omega) (by omega)) (Dt 9 rfl rfl (Q0 (K2 Z1 Z1)) (Rl bb i (u8v c0) isAgg5 rfl Z1 (bytes_get hc0)) (Dt 10 rfl rfl (Q0 (K2 Z1 Z1)) (Rb (.int .u8 c0.toNat) (.int .u8 48) (.bool (((c0.toNat : Nat) : Int) == 48)) rfl rfl eqg_int (binOp_eql _ _ _ _)) (Dt 11 rfl rfl (Q0 (K2 Z1 Z1)) (Rm (.bool (((c0.toNat : Nat) : Int) == 48)) rfl) ?_))))))))))))))
 cases hb12 : (((c0.toNat : Nat) : Int) == 48)
 · refine WD_skipG 12 (b' := false) (e := 55) rfl rfl (by kernel_rfl) rfl rfl rfl rfl (Q0 (K2 Z1 Z1)) (WD_skipG 13 (b' := false) (e := 55) rfl rfl (by kernel_rfl) rfl rfl rfl rfl (Q0 (K2 Z1 Z1)) (WD_skipG 14 (b' := false) (e := 55) rfl rfl (by kernel_rfl) rfl rfl rfl rfl (Q0 (K2 Z1 Z1)) (WD_skipG 15 (b' := false) (e := 55) rfl rfl (by kernel_rfl) rfl rfl rfl rfl (Q0 (K2 Z1 Z1)) (WD_skipG 16 (b' := false) (e := 55) rfl rfl (by kernel_rfl) rfl rfl rfl rfl (Q0 (K2 Z1 Z1)) (WD_skipG 17 (b' := false) (e := 55) rfl rfl (by kernel_rfl) rfl rfl rfl rfl (Q0 (K2 Z1 Z1)) (WD_skipG 18 (b' := false) (e := 55) rfl rfl (by kernel_rfl) rfl rfl rfl rfl (Q0 (K2 Z1 Z1)) (Dt 19 rfl rfl (Q0 (K2 Z1 Z1)) (rd_pick (b := false) rfl) (Dt 20 rfl rfl (Q0 (K2 Z1 Z1)) (Ra (.bool false) rfl) ?_))))))))
   refine WD_done (by kernel_rfl) ?_ _
   refine At_then (WC_false rfl (WC_region (Mv (Iv j) (Mv (ptr sb) (Nc sb 0 (Fa sb 0 fa134_0 (Lo sb 0 (Sl bb l.length cap) isAgg22 Z1 rfl (WL_rd (rd_lenS (a := some ⟨bb, 0, none⟩) (k := l.length) runUnderlying22 rfl) (Bo (Iv j) (Iv l.length) (.bool (decide (((j : Nat) : Int) < ((l.length : Nat) : Int)))) eqg_int (binOp_lss _ _ _ _) (Mv (.bool (decide (((j : Nat) : Int) < ((l.length : Nat) : Int)))) ?_))))))))))
   cases hb13 : (decide (((j : Nat) : Int) < ((l.length : Nat) : Int)))
   · have hje : l.length ≤ j := by have h9 := hb13; simp only [decide_eq_false_iff_not] at h9; omega
     refine Pa false 71 (Pa false 71 (Pa false 71 (Pa false 71 (Pa false 71 (Pa false 71 (Pa false 71 (Pa false 71 (Pk false (Av (.bool false) (Nt (WC_false rfl (WC_skip (At_blockN (At_then (Sr (Mv (ptr sb) (Mv (Iv j) (WL_callQ (Δ := [Cl sb 134 [Sl bb l.length cap, Iv i, slV so], Cl bb 5 (l.map u8v ++ sp)]) (v := .agg #[Iv ((cutT l 3 i j).kind), .string (bs (cutT l 3 i j).text), Iv ((cutT l 3 i j).pos), Iv ((cutT l 3 i j).en)]) call164 rfl (c_cut (l := l) (i := i) (j := j) hcap (by omega) (by omega)) (K2 Z1 Z1) (Sa b1 0 [Iv ((cutT l 3 i j).kind), .string (bs (cutT l 3 i j).text), Iv ((cutT l 3 i j).pos), Iv ((cutT l 3 i j).en)] sizeOf47 Z2 (.put (.put (.put (.put .done)))) (Nr ?_))))))))))))))))))))
     refine At_retC results110 isAgg47 sizeOf47 rfl Z0 rfl (fun w q => ⟨?_, q.mono (En Z1 (En Z1 D1))⟩)
     show _ = Ending.returned (tkVal (numberT l i))
     unfold numberT
     rw [← hje2]
     show _ = Ending.returned (tkVal (bif decide (numV (seg l i j) > 9007199254740991) then _ else _))
     have g1 : decide (numV (seg l i j) > 9007199254740991) = false := by have h9 := hb11; exact h9
     have g2 : (l[i]? == some 48) = false := by rw [hc0]; have h9 := hb12; exact (u8_is48 c0).trans h9
     have g4 : letterAt l j = false := by unfold letterAt; rw [List.getElem?_eq_none hje]
     simp only [g1, g2, g4, cond_true, cond_false, Bool.true_and, Bool.false_and, Bool.and_true, Bool.and_false]; try rfl
   have hjl : j < l.length := by have h9 := hb13; simp only [decide_eq_true_eq] at h9; omega
   obtain ⟨c, hc⟩ : ∃ c, l[j]? = some c := ⟨l[j]'hjl, List.getElem?_eq_getElem _⟩
   refine Ta true 71 (Mv (ptr sb) (Ta true 71 (Nc sb 0 (Ta true 71 (Fa sb 0 fa134_0 (Ta true 71 (Lo sb 0 (Sl bb l.length cap) isAgg22 Z1 rfl (Ta true 71 (Mv (Iv j) (Ta true 71 (WL_rd (rd_idx1 (j := j) runUnderlying22 sizeOf5 rfl rfl (by omega) (by omega)) (Ta true 71 (Lo bb j (u8v c) isAgg5 Z2 (bytes_get hc) (Ta true 71 (WL_callQ (Δ := []) (v := .bool (letterB c)) call107 rfl (c_letter c) (.nil) (Pk true (Av (.bool (letterB c)) (Nt ?_))))))))))))))))))
   cases hb14 : (letterB c)
   rotate_left 1
   · refine Ts (WL_rd (rd_build (vs := []) (v := .agg #[Iv 0, Tx [], Iv 0, Iv 0]) rfl (bd47_z )) (Sa b1 0 [Iv 0, Tx [], Iv 0, Iv 0] sizeOf47 Z0 (.put (.put (.put (.put .done)))) (Nr (At_blockR (At_thenR ?_)))))
     refine At_retC results110 isAgg47 sizeOf47 rfl Z0 rfl (fun w q => ⟨?_, q.mono (En Z1 (En Z1 D1))⟩)
     show _ = Ending.returned (tkVal (numberT l i))
     unfold numberT
     rw [← hje2]
     show _ = Ending.returned (tkVal (bif decide (numV (seg l i j) > 9007199254740991) then _ else _))
     have g1 : decide (numV (seg l i j) > 9007199254740991) = false := by have h9 := hb11; exact h9
     have g2 : (l[i]? == some 48) = false := by rw [hc0]; have h9 := hb12; exact (u8_is48 c0).trans h9
     have g4 : letterAt l j = true := by unfold letterAt; rw [hc]; exact hb14
     simp only [g1, g2, g4, cond_true, cond_false, Bool.true_and, Bool.false_and, Bool.and_true, Bool.and_false]; try rfl
   refine WC_false rfl (WC_skip (At_blockN (At_then (Sr (Mv (ptr sb) (Mv (Iv j) (WL_callQ (Δ := [Cl sb 134 [Sl bb l.length cap, Iv i, slV so], Cl bb 5 (l.map u8v ++ sp)]) (v := .agg #[Iv ((cutT l 3 i j).kind), .string (bs (cutT l 3 i j).text), Iv ((cutT l 3 i j).pos), Iv ((cutT l 3 i j).en)]) call164 rfl (c_cut (l := l) (i := i) (j := j) hcap (by omega) (by omega)) (K2 Z1 Z1) (Sa b1 0 [Iv ((cutT l 3 i j).kind), .string (bs (cutT l 3 i j).text), Iv ((cutT l 3 i j).pos), Iv ((cutT l 3 i j).en)] sizeOf47 Z2 (.put (.put (.put (.put .done)))) (Nr ?_)))))))))
   refine At_retC results110 isAgg47 sizeOf47 rfl Z0 rfl (fun w q => ⟨?_, q.mono (En Z1 (En Z1 D1))⟩)
   show _ = Ending.returned (tkVal (numberT l i))
   unfold numberT
   rw [← hje2]
   show _ = Ending.returned (tkVal (bif decide (numV (seg l i j) > 9007199254740991) then _ else _))
   have g1 : decide (numV (seg l i j) > 9007199254740991) = false := by have h9 := hb11; exact h9
   have g2 : (l[i]? == some 48) = false := by rw [hc0]; have h9 := hb12; exact (u8_is48 c0).trans h9
   have g4 : letterAt l j = false := by unfold letterAt; rw [hc]; exact hb14
   simp only [g1, g2, g4, cond_true, cond_false, Bool.true_and, Bool.false_and, Bool.and_true, Bool.and_false]; try rfl
 refine WD_takeG 12 (b' := true) (e := 55) rfl rfl (by kernel_rfl) rfl rfl rfl rfl (Q0 (K2 Z1 Z1)) (Rm (Iv j) rfl) (WD_takeG 13 (b' := true) (e := 55) rfl rfl (by kernel_rfl) rfl rfl rfl rfl (Q0 (K2 Z1 Z1)) (Rm (ptr sb) rfl) (WD_takeG 14 (b' := true) (e := 55) rfl rfl (by kernel_rfl) rfl rfl rfl rfl (Q0 (K2 Z1 Z1)) (Rn sb 0 rfl) (WD_takeG 15 (b' := true) (e := 55) rfl rfl (by kernel_rfl) rfl rfl rfl rfl (Q0 (K2 Z1 Z1)) (Rf sb 0 fa134_1 rfl) (WD_takeG 16 (b' := true) (e := 55) rfl rfl (by kernel_rfl) rfl rfl rfl rfl (Q0 (K2 Z1 Z1)) (Rl sb 1 (Iv i) isAgg3 rfl Z0 rfl) (WD_takeG 17 (b' := true) (e := 55) rfl rfl (by kernel_rfl) rfl rfl rfl rfl (Q0 (K2 Z1 Z1)) (Rb (Iv i) (Iv 1) (Iv (((i : Nat) : Int) + 1)) rfl rfl eqg_int (bin_add (by omega) (by omega))) (WD_takeG 18 (b' := true) (e := 55) rfl rfl (by kernel_rfl) rfl rfl rfl rfl (Q0 (K2 Z1 Z1)) (Rb (Iv j) (Iv (((i : Nat) : Int) + 1)) (.bool (decide (((j : Nat) : Int) > (((i : Nat) : Int) + 1)))) rfl rfl eqg_int (binOp_gtr _ _ _ _)) (Dt 19 rfl rfl (Q0 (K2 Z1 Z1)) (rd_pick (b := true) rfl) (Dt 20 rfl rfl (Q0 (K2 Z1 Z1)) (Ra (.bool (decide (((j : Nat) : Int) > (((i : Nat) : Int) + 1)))) rfl) ?_))))))))
 refine WD_done (by kernel_rfl) ?_ _
 refine At_then ?_
 cases hb15 : (decide (((j : Nat) : Int) > (((i : Nat) : Int) + 1)))
 rotate_left 1
 · refine WC_true rfl (WC_skip (At_then (Ts (WL_rd (rd_build (vs := []) (v := .agg #[Iv 0, Tx [], Iv 0, Iv 0]) rfl (bd47_z )) (Sa b1 0 [Iv 0, Tx [], Iv 0, Iv 0] sizeOf47 Z0 (.put (.put (.put (.put .done)))) (Nr (At_blockR (At_thenR ?_))))))))
   refine At_retC results110 isAgg47 sizeOf47 rfl Z0 rfl (fun w q => ⟨?_, q.mono (En Z1 (En Z1 D1))⟩)
   show _ = Ending.returned (tkVal (numberT l i))
   unfold numberT
   rw [← hje2]
   show _ = Ending.returned (tkVal (bif decide (numV (seg l i j) > 9007199254740991) then _ else _))
   have g1 : decide (numV (seg l i j) > 9007199254740991) = false := by have h9 := hb11; exact h9
   have g2 : (l[i]? == some 48) = true := by rw [hc0]; have h9 := hb12; exact (u8_is48 c0).trans h9
   have g3 : decide (j > i + 1) = true := by have h9 := hb15; first | (simp only [decide_eq_true_eq] at h9 ⊢; omega) | (simp only [decide_eq_false_iff_not] at h9 ⊢; omega)
   simp only [g1, g2, g3, cond_true, cond_false, Bool.true_and, Bool.false_and, Bool.and_true, Bool.and_false]; try rfl
 refine WC_false rfl (WC_region (Mv (Iv j) (Mv (ptr sb) (Nc sb 0 (Fa sb 0 fa134_0 (Lo sb 0 (Sl bb l.length cap) isAgg22 Z1 rfl (WL_rd (rd_lenS (a := some ⟨bb, 0, none⟩) (k := l.length) runUnderlying22 rfl) (Bo (Iv j) (Iv l.length) (.bool (decide (((j : Nat) : Int) < ((l.length : Nat) : Int)))) eqg_int (binOp_lss _ _ _ _) (Mv (.bool (decide (((j : Nat) : Int) < ((l.length : Nat) : Int)))) ?_)))))))))
 cases hb16 : (decide (((j : Nat) : Int) < ((l.length : Nat) : Int)))
 · have hje : l.length ≤ j := by have h9 := hb16; simp only [decide_eq_false_iff_not] at h9; omega
   refine Pa false 71 (Pa false 71 (Pa false 71 (Pa false 71 (Pa false 71 (Pa false 71 (Pa false 71 (Pa false 71 (Pk false (Av (.bool false) (Nt (WC_false rfl (WC_skip (At_blockN (At_then (Sr (Mv (ptr sb) (Mv (Iv j) (WL_callQ (Δ := [Cl sb 134 [Sl bb l.length cap, Iv i, slV so], Cl bb 5 (l.map u8v ++ sp)]) (v := .agg #[Iv ((cutT l 3 i j).kind), .string (bs (cutT l 3 i j).text), Iv ((cutT l 3 i j).pos), Iv ((cutT l 3 i j).en)]) call164 rfl (c_cut (l := l) (i := i) (j := j) hcap (by omega) (by omega)) (K2 Z1 Z1) (Sa b1 0 [Iv ((cutT l 3 i j).kind), .string (bs (cutT l 3 i j).text), Iv ((cutT l 3 i j).pos), Iv ((cutT l 3 i j).en)] sizeOf47 Z2 (.put (.put (.put (.put .done)))) (Nr ?_))))))))))))))))))))
   refine At_retC results110 isAgg47 sizeOf47 rfl Z0 rfl (fun w q => ⟨?_, q.mono (En Z1 (En Z1 D1))⟩)
   show _ = Ending.returned (tkVal (numberT l i))
   unfold numberT
   rw [← hje2]
   show _ = Ending.returned (tkVal (bif decide (numV (seg l i j) > 9007199254740991) then _ else _))
   have g1 : decide (numV (seg l i j) > 9007199254740991) = false := by have h9 := hb11; exact h9
   have g2 : (l[i]? == some 48) = true := by rw [hc0]; have h9 := hb12; exact (u8_is48 c0).trans h9
   have g3 : decide (j > i + 1) = false := by have h9 := hb15; first | (simp only [decide_eq_true_eq] at h9 ⊢; omega) | (simp only [decide_eq_false_iff_not] at h9 ⊢; omega)
   have g4 : letterAt l j = false := by unfold letterAt; rw [List.getElem?_eq_none hje]
   simp only [g1, g2, g3, g4, cond_true, cond_false, Bool.true_and, Bool.false_and, Bool.and_true, Bool.and_false]; try rfl
 have hjl : j < l.length := by have h9 := hb16; simp only [decide_eq_true_eq] at h9; omega
 obtain ⟨c, hc⟩ : ∃ c, l[j]? = some c := ⟨l[j]'hjl, List.getElem?_eq_getElem _⟩
 refine Ta true 71 (Mv (ptr sb) (Ta true 71 (Nc sb 0 (Ta true 71 (Fa sb 0 fa134_0 (Ta true 71 (Lo sb 0 (Sl bb l.length cap) isAgg22 Z1 rfl (Ta true 71 (Mv (Iv j) (Ta true 71 (WL_rd (rd_idx1 (j := j) runUnderlying22 sizeOf5 rfl rfl (by omega) (by omega)) (Ta true 71 (Lo bb j (u8v c) isAgg5 Z2 (bytes_get hc) (Ta true 71 (WL_callQ (Δ := []) (v := .bool (letterB c)) call107 rfl (c_letter c) (.nil) (Pk true (Av (.bool (letterB c)) (Nt ?_))))))))))))))))))
 cases hb17 : (letterB c)
 rotate_left 1
 · refine Ts (WL_rd (rd_build (vs := []) (v := .agg #[Iv 0, Tx [], Iv 0, Iv 0]) rfl (bd47_z )) (Sa b1 0 [Iv 0, Tx [], Iv 0, Iv 0] sizeOf47 Z0 (.put (.put (.put (.put .done)))) (Nr (At_blockR (At_thenR ?_)))))
   refine At_retC results110 isAgg47 sizeOf47 rfl Z0 rfl (fun w q => ⟨?_, q.mono (En Z1 (En Z1 D1))⟩)
   show _ = Ending.returned (tkVal (numberT l i))
   unfold numberT
   rw [← hje2]
   show _ = Ending.returned (tkVal (bif decide (numV (seg l i j) > 9007199254740991) then _ else _))
   have g1 : decide (numV (seg l i j) > 9007199254740991) = false := by have h9 := hb11; exact h9
   have g2 : (l[i]? == some 48) = true := by rw [hc0]; have h9 := hb12; exact (u8_is48 c0).trans h9
   have g3 : decide (j > i + 1) = false := by have h9 := hb15; first | (simp only [decide_eq_true_eq] at h9 ⊢; omega) | (simp only [decide_eq_false_iff_not] at h9 ⊢; omega)
   have g4 : letterAt l j = true := by unfold letterAt; rw [hc]; exact hb17
   simp only [g1, g2, g3, g4, cond_true, cond_false, Bool.true_and, Bool.false_and, Bool.and_true, Bool.and_false]; try rfl
 refine WC_false rfl (WC_skip (At_blockN (At_then (Sr (Mv (ptr sb) (Mv (Iv j) (WL_callQ (Δ := [Cl sb 134 [Sl bb l.length cap, Iv i, slV so], Cl bb 5 (l.map u8v ++ sp)]) (v := .agg #[Iv ((cutT l 3 i j).kind), .string (bs (cutT l 3 i j).text), Iv ((cutT l 3 i j).pos), Iv ((cutT l 3 i j).en)]) call164 rfl (c_cut (l := l) (i := i) (j := j) hcap (by omega) (by omega)) (K2 Z1 Z1) (Sa b1 0 [Iv ((cutT l 3 i j).kind), .string (bs (cutT l 3 i j).text), Iv ((cutT l 3 i j).pos), Iv ((cutT l 3 i j).en)] sizeOf47 Z2 (.put (.put (.put (.put .done)))) (Nr ?_)))))))))
 refine At_retC results110 isAgg47 sizeOf47 rfl Z0 rfl (fun w q => ⟨?_, q.mono (En Z1 (En Z1 D1))⟩)
 show _ = Ending.returned (tkVal (numberT l i))
 unfold numberT
 rw [← hje2]
 show _ = Ending.returned (tkVal (bif decide (numV (seg l i j) > 9007199254740991) then _ else _))
 have g1 : decide (numV (seg l i j) > 9007199254740991) = false := by have h9 := hb11; exact h9
 have g2 : (l[i]? == some 48) = true := by rw [hc0]; have h9 := hb12; exact (u8_is48 c0).trans h9
 have g3 : decide (j > i + 1) = false := by have h9 := hb15; first | (simp only [decide_eq_true_eq] at h9 ⊢; omega) | (simp only [decide_eq_false_iff_not] at h9 ⊢; omega)
 have g4 : letterAt l j = false := by unfold letterAt; rw [hc]; exact hb17
 simp only [g1, g2, g3, g4, cond_true, cond_false, Bool.true_and, Bool.false_and, Bool.and_true, Bool.and_false]; try rfl
end
end Go.Proofs

namespace Go.Proofs
open Go.Px Tryz
attribute [local semireducible] WL WC At WD
theorem ib_and {k : IntKind} {a b : Nat} (ha : a < 2 ^ k.bits) (hb : b < 2 ^ k.bits) : Op.intBits .and k (a : Int) (b : Int) = pure (.int k (k.wrap ((a &&& b : Nat) : Int))) := by
 unfold Op.intBits
 simp only [BitVec.ofInt_natCast, BitVec.toNat_and, BitVec.toNat_ofNat, Nat.mod_eq_of_lt ha, Nat.mod_eq_of_lt hb]
theorem ib_or {k : IntKind} {a b : Nat} (ha : a < 2 ^ k.bits) (hb : b < 2 ^ k.bits) : Op.intBits .or k (a : Int) (b : Int) = pure (.int k (k.wrap ((a ||| b : Nat) : Int))) := by
 unfold Op.intBits
 simp only [BitVec.ofInt_natCast, BitVec.toNat_or, BitVec.toNat_ofNat, Nat.mod_eq_of_lt ha, Nat.mod_eq_of_lt hb]
theorem bin_and8 {T : TypeId} {a : Nat} (m : Nat) (ha : a < 256) (hm : m < 8) : binOp .and T (.int .u8 (a : Int)) (.int .u8 ((2 ^ m - 1 : Nat) : Int)) = pure (.int .u8 ((a % 2 ^ m : Nat) : Int)) := by
 have h1 : 2 ^ m - 1 < 256 := by
  have : 2 ^ m ≤ 2 ^ 8 := Nat.pow_le_pow_right (by omega) (by omega)
  omega
 have h2 : a % 2 ^ m ≤ a := Nat.mod_le _ _
 rw [binOp_and, ib_and (by simpa [IntKind.bits] using ha) (by simpa [IntKind.bits] using h1), Nat.and_two_pow_sub_one_eq_mod, IntWalk.u8_in _ ⟨by omega, by omega⟩]
theorem bin_or6 {T : TypeId} {k : IntKind} {a b : Nat} (h6 : b < 64) (h : a * 64 + b < 2 ^ k.bits) (hw : k.wrap ((a * 64 + b : Nat) : Int) = ((a * 64 + b : Nat) : Int)) :
 binOp .or T (.int k ((a * 64 : Nat) : Int)) (.int k (b : Int)) = pure (.int k ((a * 64 + b : Nat) : Int)) := by
 have e : a * 64 ||| b = a * 64 + b := by
  have := Nat.two_pow_add_eq_or_of_lt (i := 6) (b := b) h6 a
  rw [Nat.mul_comm a 64]; exact this.symm
 rw [binOp_or, ib_or (by omega) (by omega), e, hw]
theorem bin_or4 {T : TypeId} {k : IntKind} {a b : Nat} (h6 : b < 16) (h : a * 16 + b < 2 ^ k.bits) (hw : k.wrap ((a * 16 + b : Nat) : Int) = ((a * 16 + b : Nat) : Int)) :
 binOp .or T (.int k ((a * 16 : Nat) : Int)) (.int k (b : Int)) = pure (.int k ((a * 16 + b : Nat) : Int)) := by
 have e : a * 16 ||| b = a * 16 + b := by
  have := Nat.two_pow_add_eq_or_of_lt (i := 4) (b := b) h6 a
  rw [Nat.mul_comm a 16]; exact this.symm
 rw [binOp_or, ib_or (by omega) (by omega), e, hw]
theorem bin_shr {T : TypeId} {k yk : IntKind} {a : Nat} (m : Nat) (hm : m ≤ k.bits) : binOp .shr T (.int k (a : Int)) (.int yk (m : Int)) = pure (.int k ((a / 2 ^ m : Nat) : Int)) := by
 rw [binOp_shr]; unfold Op.shift
 rw [if_neg (by omega)]
 simp only [Int.toNat_natCast, Nat.min_eq_left hm]
 congr 2
 rw [show ((2 : Int) ^ m) = ((2 ^ m : Nat) : Int) by simp, Int.fdiv_eq_ediv_of_nonneg _ (Int.natCast_nonneg _)]
 exact (Int.natCast_ediv _ _).symm
theorem bin_shl {T : TypeId} {k yk : IntKind} {a : Nat} (m : Nat) (hm : m ≤ k.bits) (hw : k.wrap ((a * 2 ^ m : Nat) : Int) = ((a * 2 ^ m : Nat) : Int)) : binOp .shl T (.int k (a : Int)) (.int yk (m : Int)) = pure (.int k ((a * 2 ^ m : Nat) : Int)) := by
 rw [binOp_shl]; unfold Op.shift
 rw [if_neg (by omega)]
 simp only [Int.toNat_natCast, Nat.min_eq_left hm]
 rw [show (a : Int) * (2 : Int) ^ m = ((a * 2 ^ m : Nat) : Int) by simp, hw]
section
variable {n : Nat} {ρ : Env} {Γ : List HP} {d : Option Tmp} {ty : TypeId} {pos : String} {af : Array Edge} {gd : Option (Nat × Bool)}
theorem rd_idxBsl {x y : Operand} {T E : TypeId} {bb i j cap k : Nat} {a : Int} {q : IntKind} (hU : ∀ w, (underlying T).run prog w = .ok (.slice E) w) (hS : ∀ w, (sizeOf E).run prog w = .ok 1 w)
 (hx : evE n ρ x = bslV bb i j cap) (hy : evE n ρ y = .int q a) (ha : a = (k : Int)) (h1 : k < j - i) (h2 : j ≤ cap) :
 Rd prog n ρ ⟨d, .indexAddr T x y, ty, pos, af, gd⟩ Γ (.pointer (some ⟨bb, i + k, none⟩)) := by
 subst ha
 unfold bslV at hx
 rw [if_neg (by omega)] at hx
 have := rd_indexAddr (P := prog) (d := d) (ty := ty) (pos := pos) (af := af) (gd := gd) (Γ := Γ) hU hS hx hy (by omega) (by omega)
 simpa using this
theorem rd_lenBsl {x : Operand} {T E : TypeId} {bb i j cap : Nat} (hU : ∀ w, (underlying T).run prog w = .ok (.slice E) w) (hx : evE n ρ x = bslV bb i j cap) :
 Rd prog n ρ ⟨d, .call ⟨.builtin .len, #[x], #[T]⟩, ty, pos, af, gd⟩ Γ (.int .i64 ((j - i : Nat) : Int)) := rd_lenS hU hx
end
theorem At_ret3 {P : Program} {ρ : Env} {Γ : List HP} {fn : Func} {R : Ending → World → Prop} {t u v : Tmp} (hres : fn.results = #[.tmp t, .tmp u, .tmp v]) (hR : ∀ w, Sat Γ w → R (.returned (.tuple #[evE fn.ntmps ρ (.tmp t), evE fn.ntmps ρ (.tmp u), evE fn.ntmps ρ (.tmp v)])) w) :
 At .ret (bodyQ P fn R) ρ [] Γ := At_ret rfl (fun w _ => by rw [results_tmp3 hres, actOf_getD, actOf_getD, actOf_getD]; rfl) hR
end Go.Proofs

namespace Go.Proofs
open Go.Px Tryz
section
variable {pb tb cap K : Nat} {L : List Tk} {g : NT → M PT} {gx : GX} {rx : RX}
theorem c_wide (c : UInt8) : ∀ F w, Sat ([] ++ F) w → Calls prog 211 [u8v c].toArray w fun e w' => e = .returned (.tuple #[Iv (((wideB c).1 : Nat) : Int), .int .i32 (((wideB c).2 : Nat) : Int)]) ∧ Sat ([] ++ F) w' := by
 intro F
 have hc8 : c.toNat < 256 := c.toNat_lt
 refine calls_of_WC (fn := f211) func211 rfl rfl (Sr (Av (Iv 0) (Av (.int .i32 0) (Nt (WC_seq (WC_block (Sr (Mv (.int .u8 c.toNat) (Bo (.int .u8 c.toNat) (.int .u8 128) (.bool (decide (((c.toNat : Nat) : Int) < 128))) eqg_int (binOp_lss _ _ _ _) (Av (.bool (decide (((c.toNat : Nat) : Int) < 128))) (Nt ?_)))))))))))
 cases hb1 : (decide (((c.toNat : Nat) : Int) < 128))
 rotate_left 1
 · refine Ts (Mv (.int .u8 c.toNat) (WL_rd (rd_conv (a := ((c.toNat : Nat) : Int)) (q := .i32) rfl underlying5 underlying21 (IntWalk.i32_in _ ⟨by omega, by omega⟩)) (Av (Iv 1) (Av (.int .i32 c.toNat) (Nr (At_blockR (At_thenR ?_)))))))
   have g0 : decide (c.toNat < 128) = true := by have h9 := hb1; first | (simp only [beq_iff_eq, decide_eq_true_eq] at h9 ⊢; omega) | (simp only [beq_eq_false_iff_ne, ne_eq, decide_eq_false_iff_not] at h9 ⊢; omega)
   exact At_ret2 results211 (fun w q => ⟨by unfold wideB; simp only [g0, cond_true, cond_false]; rfl, q⟩)
 refine WC_false rfl (Sr (Mv (.int .u8 c.toNat) (Bo (.int .u8 c.toNat) (.int .u64 5) (.int .u8 ((c.toNat / 32 : Nat) : Int)) eqg_int (bin_shr 5 (by decide)) (Bo (.int .u8 ((c.toNat / 32 : Nat) : Int)) (.int .u8 6) (.bool (((c.toNat / 32 : Nat) : Int) == 6)) eqg_int (binOp_eql _ _ _ _) (Av (.bool (((c.toNat / 32 : Nat) : Int) == 6)) (Nt ?_))))))
 cases hb2 : (((c.toNat / 32 : Nat) : Int) == 6)
 rotate_left 1
 · refine Ts (Mv (.int .u8 c.toNat) (Bo (.int .u8 c.toNat) (.int .u8 31) (.int .u8 ((c.toNat % 32 : Nat) : Int)) eqg_int (bin_and8 5 (by omega) (by decide)) (WL_rd (rd_conv (a := ((c.toNat % 32 : Nat) : Int)) (q := .i32) rfl underlying5 underlying21 (IntWalk.i32_in _ ⟨by omega, by omega⟩)) (Av (Iv 2) (Av (.int .i32 ((c.toNat % 32 : Nat) : Int)) (Nr (At_blockR (At_thenR ?_))))))))
   have g0 : decide (c.toNat < 128) = false := by have h9 := hb1; first | (simp only [beq_iff_eq, decide_eq_true_eq] at h9 ⊢; omega) | (simp only [beq_eq_false_iff_ne, ne_eq, decide_eq_false_iff_not] at h9 ⊢; omega)
   have g1 : decide (c.toNat / 32 = 6) = true := by have h9 := hb2; first | (simp only [beq_iff_eq, decide_eq_true_eq] at h9 ⊢; omega) | (simp only [beq_eq_false_iff_ne, ne_eq, decide_eq_false_iff_not] at h9 ⊢; omega)
   exact At_ret2 results211 (fun w q => ⟨by unfold wideB; simp only [g0, g1, cond_true, cond_false]; rfl, q⟩)
 refine WC_false rfl (Sr (Mv (.int .u8 c.toNat) (Bo (.int .u8 c.toNat) (.int .u64 4) (.int .u8 ((c.toNat / 16 : Nat) : Int)) eqg_int (bin_shr 4 (by decide)) (Bo (.int .u8 ((c.toNat / 16 : Nat) : Int)) (.int .u8 14) (.bool (((c.toNat / 16 : Nat) : Int) == 14)) eqg_int (binOp_eql _ _ _ _) (Av (.bool (((c.toNat / 16 : Nat) : Int) == 14)) (Nt ?_))))))
 cases hb3 : (((c.toNat / 16 : Nat) : Int) == 14)
 rotate_left 1
 · refine Ts (Mv (.int .u8 c.toNat) (Bo (.int .u8 c.toNat) (.int .u8 15) (.int .u8 ((c.toNat % 16 : Nat) : Int)) eqg_int (bin_and8 4 (by omega) (by decide)) (WL_rd (rd_conv (a := ((c.toNat % 16 : Nat) : Int)) (q := .i32) rfl underlying5 underlying21 (IntWalk.i32_in _ ⟨by omega, by omega⟩)) (Av (Iv 3) (Av (.int .i32 ((c.toNat % 16 : Nat) : Int)) (Nr (At_blockR (At_thenR ?_))))))))
   have g0 : decide (c.toNat < 128) = false := by have h9 := hb1; first | (simp only [beq_iff_eq, decide_eq_true_eq] at h9 ⊢; omega) | (simp only [beq_eq_false_iff_ne, ne_eq, decide_eq_false_iff_not] at h9 ⊢; omega)
   have g1 : decide (c.toNat / 32 = 6) = false := by have h9 := hb2; first | (simp only [beq_iff_eq, decide_eq_true_eq] at h9 ⊢; omega) | (simp only [beq_eq_false_iff_ne, ne_eq, decide_eq_false_iff_not] at h9 ⊢; omega)
   have g2 : decide (c.toNat / 16 = 14) = true := by have h9 := hb3; first | (simp only [beq_iff_eq, decide_eq_true_eq] at h9 ⊢; omega) | (simp only [beq_eq_false_iff_ne, ne_eq, decide_eq_false_iff_not] at h9 ⊢; omega)
   exact At_ret2 results211 (fun w q => ⟨by unfold wideB; simp only [g0, g1, g2, cond_true, cond_false]; rfl, q⟩)
 refine WC_false rfl (Sr (Mv (.int .u8 c.toNat) (Bo (.int .u8 c.toNat) (.int .u64 3) (.int .u8 ((c.toNat / 8 : Nat) : Int)) eqg_int (bin_shr 3 (by decide)) (Bo (.int .u8 ((c.toNat / 8 : Nat) : Int)) (.int .u8 30) (.bool (((c.toNat / 8 : Nat) : Int) == 30)) eqg_int (binOp_eql _ _ _ _) (Av (.bool (((c.toNat / 8 : Nat) : Int) == 30)) (Nt ?_))))))
 cases hb4 : (((c.toNat / 8 : Nat) : Int) == 30)
 · refine WC_false rfl (WC_skip (At_blockN (At_then (Sr (Av (Iv 0) (Av (.int .i32 0) (Nr ?_)))))))
   have g0 : decide (c.toNat < 128) = false := by have h9 := hb1; first | (simp only [beq_iff_eq, decide_eq_true_eq] at h9 ⊢; omega) | (simp only [beq_eq_false_iff_ne, ne_eq, decide_eq_false_iff_not] at h9 ⊢; omega)
   have g1 : decide (c.toNat / 32 = 6) = false := by have h9 := hb2; first | (simp only [beq_iff_eq, decide_eq_true_eq] at h9 ⊢; omega) | (simp only [beq_eq_false_iff_ne, ne_eq, decide_eq_false_iff_not] at h9 ⊢; omega)
   have g2 : decide (c.toNat / 16 = 14) = false := by have h9 := hb3; first | (simp only [beq_iff_eq, decide_eq_true_eq] at h9 ⊢; omega) | (simp only [beq_eq_false_iff_ne, ne_eq, decide_eq_false_iff_not] at h9 ⊢; omega)
   have g3 : decide (c.toNat / 8 = 30) = false := by have h9 := hb4; first | (simp only [beq_iff_eq, decide_eq_true_eq] at h9 ⊢; omega) | (simp only [beq_eq_false_iff_ne, ne_eq, decide_eq_false_iff_not] at h9 ⊢; omega)
   exact At_ret2 results211 (fun w q => ⟨by unfold wideB; simp only [g0, g1, g2, g3, cond_true, cond_false]; rfl, q⟩)
 refine Ts (Mv (.int .u8 c.toNat) (Bo (.int .u8 c.toNat) (.int .u8 7) (.int .u8 ((c.toNat % 8 : Nat) : Int)) eqg_int (bin_and8 3 (by omega) (by decide)) (WL_rd (rd_conv (a := ((c.toNat % 8 : Nat) : Int)) (q := .i32) rfl underlying5 underlying21 (IntWalk.i32_in _ ⟨by omega, by omega⟩)) (Av (Iv 4) (Av (.int .i32 ((c.toNat % 8 : Nat) : Int)) (Nr (At_blockR (At_thenR ?_))))))))
 have g0 : decide (c.toNat < 128) = false := by have h9 := hb1; first | (simp only [beq_iff_eq, decide_eq_true_eq] at h9 ⊢; omega) | (simp only [beq_eq_false_iff_ne, ne_eq, decide_eq_false_iff_not] at h9 ⊢; omega)
 have g1 : decide (c.toNat / 32 = 6) = false := by have h9 := hb2; first | (simp only [beq_iff_eq, decide_eq_true_eq] at h9 ⊢; omega) | (simp only [beq_eq_false_iff_ne, ne_eq, decide_eq_false_iff_not] at h9 ⊢; omega)
 have g2 : decide (c.toNat / 16 = 14) = false := by have h9 := hb3; first | (simp only [beq_iff_eq, decide_eq_true_eq] at h9 ⊢; omega) | (simp only [beq_eq_false_iff_ne, ne_eq, decide_eq_false_iff_not] at h9 ⊢; omega)
 have g3 : decide (c.toNat / 8 = 30) = true := by have h9 := hb4; first | (simp only [beq_iff_eq, decide_eq_true_eq] at h9 ⊢; omega) | (simp only [beq_eq_false_iff_ne, ne_eq, decide_eq_false_iff_not] at h9 ⊢; omega)
 exact At_ret2 results211 (fun w q => ⟨by unfold wideB; simp only [g0, g1, g2, g3, cond_true, cond_false]; rfl, q⟩)
theorem c_fits (r n : Nat) : ∀ F w, Sat ([] ++ F) w → Calls prog 212 [.int .i32 r, Iv n].toArray w fun e w' => e = .returned (.bool (fitsB r n)) ∧ Sat ([] ++ F) w' := by
 intro F
 refine calls_of_WC (fn := f212) func212 rfl rfl (Sr (Av (.bool false) (Nz (Mv (Iv n) (Nt (WC_block (Sr (Bo (Iv n) (Iv 1) (.bool (((n : Nat) : Int) == 1)) eqg_int (binOp_eql _ _ _ _) (Av (.bool (((n : Nat) : Int) == 1)) (Nt ?_))))))))))
 cases hb1 : (((n : Nat) : Int) == 1)
 rotate_left 1
 · refine Ts (Av (.bool true) (Nr (At_blockR (At_thenR ?_))))
   have e9 : fitsB r n = true := by
    simp only [beq_iff_eq, beq_eq_false_iff_ne, ne_eq, decide_eq_true_eq, decide_eq_false_iff_not, ge_iff_le, gt_iff_lt] at hb1
    unfold fitsB
    cases g1 : (n == 1) <;> cases g2 : (n == 2) <;> cases g3 : (n == 3) <;> simp only [beq_iff_eq, beq_eq_false_iff_ne, ne_eq, cond_true, cond_false] at g1 g2 g3 ⊢ <;> first | omega | rfl | (simp; omega)
   exact At_ret1 results212 (fun w q => ⟨by rw [e9]; rfl, q⟩)
 refine WC_false rfl (Sr (Bo (Iv n) (Iv 2) (.bool (((n : Nat) : Int) == 2)) eqg_int (binOp_eql _ _ _ _) (Av (.bool (((n : Nat) : Int) == 2)) (Nt ?_))))
 cases hb2 : (((n : Nat) : Int) == 2)
 rotate_left 1
 · refine Ts (Mv (.int .i32 r) (Bo (.int .i32 r) (.int .i32 128) (.bool (decide (((r : Nat) : Int) ≥ 128))) eqg_int (binOp_geq _ _ _ _) (Av (.bool (decide (((r : Nat) : Int) ≥ 128))) (Nr (At_blockR (At_thenR ?_))))))
   cases hb9 : (decide (((r : Nat) : Int) ≥ 128))
   · have e9 : fitsB r n = false := by
      simp only [beq_iff_eq, beq_eq_false_iff_ne, ne_eq, decide_eq_true_eq, decide_eq_false_iff_not, ge_iff_le, gt_iff_lt] at hb1 hb2 hb9
      unfold fitsB
      cases g1 : (n == 1) <;> cases g2 : (n == 2) <;> cases g3 : (n == 3) <;> simp only [beq_iff_eq, beq_eq_false_iff_ne, ne_eq, cond_true, cond_false] at g1 g2 g3 ⊢ <;> first | omega | rfl | (simp; omega)
     exact At_ret1 results212 (fun w q => ⟨by rw [e9]; rfl, q⟩)
   have e9 : fitsB r n = true := by
    simp only [beq_iff_eq, beq_eq_false_iff_ne, ne_eq, decide_eq_true_eq, decide_eq_false_iff_not, ge_iff_le, gt_iff_lt] at hb1 hb2 hb9
    unfold fitsB
    cases g1 : (n == 1) <;> cases g2 : (n == 2) <;> cases g3 : (n == 3) <;> simp only [beq_iff_eq, beq_eq_false_iff_ne, ne_eq, cond_true, cond_false] at g1 g2 g3 ⊢ <;> first | omega | rfl | (simp; omega)
   exact At_ret1 results212 (fun w q => ⟨by rw [e9]; rfl, q⟩)
 refine WC_false rfl (Sr (Bo (Iv n) (Iv 3) (.bool (((n : Nat) : Int) == 3)) eqg_int (binOp_eql _ _ _ _) (Av (.bool (((n : Nat) : Int) == 3)) (Nt ?_))))
 cases hb3 : (((n : Nat) : Int) == 3)
 · refine WC_false rfl (WC_skip (At_blockN (At_then (Sr (Mv (.int .i32 r) (Bo (.int .i32 r) (.int .i32 65536) (.bool (decide (((r : Nat) : Int) ≥ 65536))) eqg_int (binOp_geq _ _ _ _) (Mv (.bool (decide (((r : Nat) : Int) ≥ 65536))) ?_)))))))
   cases hb4 : (decide (((r : Nat) : Int) ≥ 65536))
   · refine Pa false 26 (Pa false 26 (Pk false (Av (.bool false) (Nr ?_))))
     have e9 : fitsB r n = false := by
      simp only [beq_iff_eq, beq_eq_false_iff_ne, ne_eq, decide_eq_true_eq, decide_eq_false_iff_not, ge_iff_le, gt_iff_lt] at hb1 hb2 hb3 hb4
      unfold fitsB
      cases g1 : (n == 1) <;> cases g2 : (n == 2) <;> cases g3 : (n == 3) <;> simp only [beq_iff_eq, beq_eq_false_iff_ne, ne_eq, cond_true, cond_false] at g1 g2 g3 ⊢ <;> first | omega | rfl | (simp; omega)
     exact At_ret1 results212 (fun w q => ⟨by rw [e9]; rfl, q⟩)
   refine Ta true 26 (Mv (.int .i32 r) (Ta true 26 (Bo (.int .i32 r) (.int .i32 1114111) (.bool (decide (((r : Nat) : Int) ≤ 1114111))) eqg_int (binOp_leq _ _ _ _) (Pk true (Av (.bool (decide (((r : Nat) : Int) ≤ 1114111))) (Nr ?_))))))
   cases hb5 : (decide (((r : Nat) : Int) ≤ 1114111))
   rotate_left 1
   · have e9 : fitsB r n = true := by
      simp only [beq_iff_eq, beq_eq_false_iff_ne, ne_eq, decide_eq_true_eq, decide_eq_false_iff_not, ge_iff_le, gt_iff_lt] at hb1 hb2 hb3 hb4 hb5
      unfold fitsB
      cases g1 : (n == 1) <;> cases g2 : (n == 2) <;> cases g3 : (n == 3) <;> simp only [beq_iff_eq, beq_eq_false_iff_ne, ne_eq, cond_true, cond_false] at g1 g2 g3 ⊢ <;> first | omega | rfl | (simp; omega)
     exact At_ret1 results212 (fun w q => ⟨by rw [e9]; rfl, q⟩)
   have e9 : fitsB r n = false := by
    simp only [beq_iff_eq, beq_eq_false_iff_ne, ne_eq, decide_eq_true_eq, decide_eq_false_iff_not, ge_iff_le, gt_iff_lt] at hb1 hb2 hb3 hb4 hb5
    unfold fitsB
    cases g1 : (n == 1) <;> cases g2 : (n == 2) <;> cases g3 : (n == 3) <;> simp only [beq_iff_eq, beq_eq_false_iff_ne, ne_eq, cond_true, cond_false] at g1 g2 g3 ⊢ <;> first | omega | rfl | (simp; omega)
   exact At_ret1 results212 (fun w q => ⟨by rw [e9]; rfl, q⟩)
 refine Ts (Mv (.int .i32 r) (Bo (.int .i32 r) (.int .i32 2048) (.bool (decide (((r : Nat) : Int) ≥ 2048))) eqg_int (binOp_geq _ _ _ _) (Mv (.bool (decide (((r : Nat) : Int) ≥ 2048))) ?_)))
 cases hb6 : (decide (((r : Nat) : Int) ≥ 2048))
 · refine Pa false 16 (Pa false 16 (Pa false 16 (WL_passU (e := 19) rfl rfl (WL_passU (e := 19) rfl rfl (Pa false 16 (Pk false (Av (.bool false) (Nr (At_blockR (At_thenR ?_))))))))))
   have e9 : fitsB r n = false := by
    simp only [beq_iff_eq, beq_eq_false_iff_ne, ne_eq, decide_eq_true_eq, decide_eq_false_iff_not, ge_iff_le, gt_iff_lt] at hb1 hb2 hb3 hb6
    unfold fitsB
    cases g1 : (n == 1) <;> cases g2 : (n == 2) <;> cases g3 : (n == 3) <;> simp only [beq_iff_eq, beq_eq_false_iff_ne, ne_eq, cond_true, cond_false] at g1 g2 g3 ⊢ <;> first | omega | rfl | (simp; omega)
   exact At_ret1 results212 (fun w q => ⟨by rw [e9]; rfl, q⟩)
 refine Ta true 16 (Mv (.int .i32 r) (Ta true 16 (Bo (.int .i32 r) (.int .i32 55296) (.bool (decide (((r : Nat) : Int) < 55296))) eqg_int (binOp_lss _ _ _ _) (Ta true 16 (Mv (.bool (decide (((r : Nat) : Int) < 55296))) ?_)))))
 cases hb7 : (decide (((r : Nat) : Int) < 55296))
 rotate_left 1
 · refine Pa true 19 (Pa true 19 (Ta true 16 (Pk true (Pk true (Av (.bool true) (Nr (At_blockR (At_thenR ?_))))))))
   have e9 : fitsB r n = true := by
    simp only [beq_iff_eq, beq_eq_false_iff_ne, ne_eq, decide_eq_true_eq, decide_eq_false_iff_not, ge_iff_le, gt_iff_lt] at hb1 hb2 hb3 hb6 hb7
    unfold fitsB
    cases g1 : (n == 1) <;> cases g2 : (n == 2) <;> cases g3 : (n == 3) <;> simp only [beq_iff_eq, beq_eq_false_iff_ne, ne_eq, cond_true, cond_false] at g1 g2 g3 ⊢ <;> first | omega | rfl | (simp; omega)
   exact At_ret1 results212 (fun w q => ⟨by rw [e9]; rfl, q⟩)
 refine Ta false 19 (Mv (.int .i32 r) (Ta false 19 (Bo (.int .i32 r) (.int .i32 57343) (.bool (decide (((r : Nat) : Int) > 57343))) eqg_int (binOp_gtr _ _ _ _) (Ta true 16 (Pk false (Pk true (Av (.bool (decide (((r : Nat) : Int) > 57343))) (Nr (At_blockR (At_thenR ?_))))))))))
 cases hb8 : (decide (((r : Nat) : Int) > 57343))
 rotate_left 1
 · have e9 : fitsB r n = true := by
    simp only [beq_iff_eq, beq_eq_false_iff_ne, ne_eq, decide_eq_true_eq, decide_eq_false_iff_not, ge_iff_le, gt_iff_lt] at hb1 hb2 hb3 hb6 hb7 hb8
    unfold fitsB
    cases g1 : (n == 1) <;> cases g2 : (n == 2) <;> cases g3 : (n == 3) <;> simp only [beq_iff_eq, beq_eq_false_iff_ne, ne_eq, cond_true, cond_false] at g1 g2 g3 ⊢ <;> first | omega | rfl | (simp; omega)
   exact At_ret1 results212 (fun w q => ⟨by rw [e9]; rfl, q⟩)
 have e9 : fitsB r n = false := by
  simp only [beq_iff_eq, beq_eq_false_iff_ne, ne_eq, decide_eq_true_eq, decide_eq_false_iff_not, ge_iff_le, gt_iff_lt] at hb1 hb2 hb3 hb6 hb7 hb8
  unfold fitsB
  cases g1 : (n == 1) <;> cases g2 : (n == 2) <;> cases g3 : (n == 3) <;> simp only [beq_iff_eq, beq_eq_false_iff_ne, ne_eq, cond_true, cond_false] at g1 g2 g3 ⊢ <;> first | omega | rfl | (simp; omega)
 exact At_ret1 results212 (fun w q => ⟨by rw [e9]; rfl, q⟩)
def okB (l : Bs) (i : Nat) : Bool := match l[i]? with
 | none => false
 | some c => bif (wideB c).1 == 0 || decide ((wideB c).1 > l.length - i) then false else
  match contR ((l.drop (i + 1)).take ((wideB c).1 - 1)) (wideB c).2 with
  | none => false
  | some r => fitsB r (wideB c).1
theorem wide_bounds (c : UInt8) : (wideB c).1 ≤ 4 ∧ (2 ≤ (wideB c).1 → (wideB c).2 < 32) ∧ (wideB c).2 < 128 := by
 unfold wideB
 cases g1 : decide (c.toNat < 128) <;> cases g2 : decide (c.toNat / 32 = 6) <;> cases g3 : decide (c.toNat / 16 = 14) <;> cases g4 : decide (c.toNat / 8 = 30) <;> simp only [decide_eq_true_eq, decide_eq_false_iff_not, cond_true, cond_false] at * <;> refine ⟨?_, ?_, ?_⟩ <;> omega
theorem decode_short {l : Bs} {i : Nat} {c : UInt8} (hc : l[i]? = some c) (h : ((wideB c).1 == 0 || decide ((wideB c).1 > l.length - i)) = true) : decodeB l i = (65533, 1) ∧ okB l i = false := by
 constructor
 · unfold decodeB; rw [hc]; simp only [h, cond_true]
 unfold okB; rw [hc]; simp only [h, cond_true]
theorem decode_bad {l : Bs} {i : Nat} {c : UInt8} (hc : l[i]? = some c) (h : ((wideB c).1 == 0 || decide ((wideB c).1 > l.length - i)) = false) (hr : contR ((l.drop (i + 1)).take ((wideB c).1 - 1)) (wideB c).2 = none) : decodeB l i = (65533, 1) ∧ okB l i = false := by
 constructor
 · unfold decodeB; rw [hc]; simp only [h, cond_false, hr]
 unfold okB; rw [hc]; simp only [h, cond_false, hr]
theorem decode_fit {l : Bs} {i r : Nat} {c : UInt8} {b : Bool} (hc : l[i]? = some c) (h : ((wideB c).1 == 0 || decide ((wideB c).1 > l.length - i)) = false) (hr : contR ((l.drop (i + 1)).take ((wideB c).1 - 1)) (wideB c).2 = some r) (hf : fitsB r (wideB c).1 = b) :
 decodeB l i = (bif b then (r, (wideB c).1) else (65533, 1)) ∧ okB l i = b := by
 constructor
 · unfold decodeB; rw [hc]; simp only [h, cond_false, hr, hf]
 unfold okB; rw [hc]; simp only [h, cond_false, hr, hf]
theorem seg_dropc {l : Bs} {i n k : Nat} {c : UInt8} (hk : k < n - 1) (hc : l[i + 1 + k]? = some c) : ((l.drop (i + 1)).take (n - 1)).drop k = c :: ((l.drop (i + 1)).take (n - 1)).drop (k + 1) := by
 have h : ((l.drop (i + 1)).take (n - 1))[k]? = some c := by rw [List.getElem?_take, if_pos hk, List.getElem?_drop]; exact hc
 obtain ⟨h1, h2⟩ := List.getElem?_eq_some_iff.1 h
 rw [List.drop_eq_getElem_cons h1, h2]
theorem c_decode {l : Bs} {i : Nat} {bb cap : Nat} {sp : List Value} {c : UInt8} (hcap : l.length ≤ cap) (hl : l.length ≤ 1048576) (hc : l[i]? = some c) : ∀ F w, Sat ([Cl bb 5 (l.map u8v ++ sp)] ++ F) w → Calls prog 169 [Sl bb l.length cap, Iv i].toArray w fun e w' => e = .returned (.tuple #[.int .i32 (((decodeB l i).1 : Nat) : Int), Iv (((decodeB l i).2 : Nat) : Int), .bool (okB l i)]) ∧ Sat ([Cl bb 5 (l.map u8v ++ sp)] ++ F) w' := by
 intro F
 have hil : i < l.length := (List.getElem?_eq_some_iff.1 hc).1
 obtain ⟨hw1, hw2, hw3⟩ := wide_bounds c
 refine calls_of_WC (fn := f169) func169 rfl rfl (Sr (Av (.int .i32 0) (Av (Iv 0) (Av (.bool false) (Nz (Mv (Iv i) (Bo (Iv i) (Iv 0) (.bool false) eqg_int (by rw [binOp_lss]; rw [decide_eq_false (by omega)]) (Mv (.bool false) (Ta false 13 (Mv (Iv i) (Ta false 13 (Mv (Sl bb l.length cap) (Ta false 13 (WL_rd (rd_lenS (a := some ⟨bb, 0, none⟩) (k := l.length) runUnderlying22 rfl) (Ta false 13 (Bo (Iv i) (Iv l.length) (.bool false) eqg_int (by rw [binOp_geq]; rw [decide_eq_false (by omega)]) (Pk false (Nt (Fx (Mv (Sl bb l.length cap) (Mv (Iv i) (WL_rd (rd_idx1 (j := i) runUnderlying22 sizeOf5 rfl rfl (by omega) (by omega)) (Lo bb i (u8v c) isAgg5 Z0 (bytes_get hc) (WL_callQ (Δ := []) (v := .tuple #[Iv (((wideB c).1 : Nat) : Int), .int .i32 (((wideB c).2 : Nat) : Int)]) call211 rfl (c_wide c) (.nil) (Mv (.tuple #[Iv (((wideB c).1 : Nat) : Int), .int .i32 (((wideB c).2 : Nat) : Int)]) (Xt (Iv (((wideB c).1 : Nat) : Int)) (Xt (.int .i32 (((wideB c).2 : Nat) : Int)) (Av (Iv (((wideB c).1 : Nat) : Int)) (Av (.int .i32 (((wideB c).2 : Nat) : Int)) (Nz (Mv (Iv (((wideB c).1 : Nat) : Int)) (Bo (Iv (((wideB c).1 : Nat) : Int)) (Iv 0) (.bool ((((wideB c).1 : Nat) : Int) == 0)) eqg_int (binOp_eql _ _ _ _) (Mv (.bool ((((wideB c).1 : Nat) : Int) == 0)) ?_)))))))))))))))))))))))))))))))))
 cases hb1 : ((((wideB c).1 : Nat) : Int) == 0)
 rotate_left 1
 · have hz : ((wideB c).1 == 0) = true := by have h9 := hb1; simp only [beq_iff_eq] at h9 ⊢; omega
   have hsh : ((wideB c).1 == 0 || decide ((wideB c).1 > l.length - i)) = true := by rw [hz]; rfl
   refine Pa true 29 (Pa true 29 (Pa true 29 (Pa true 29 (Pa true 29 (Pa true 29 (Pk true (Nt (Ts (Av (.int .i32 65533) (Av (Iv 1) (Av (.bool false) (Nr (At_thenR ?_)))))))))))))
   have e9 := decode_short hc hsh
   refine At_ret3 results169 (fun w q => ⟨?_, q⟩)
   rw [e9.1, e9.2]; try rfl
 have hz : ((wideB c).1 == 0) = false := by have h9 := hb1; simp only [beq_eq_false_iff_ne, ne_eq] at h9 ⊢; omega
 refine Ta false 29 (Mv (Iv (((wideB c).1 : Nat) : Int)) (Ta false 29 (Mv (Sl bb l.length cap) (Ta false 29 (WL_rd (rd_lenS (a := some ⟨bb, 0, none⟩) (k := l.length) runUnderlying22 rfl) (Ta false 29 (Mv (Iv i) (Ta false 29 (Bo (Iv l.length) (Iv i) (Iv (((l.length : Nat) : Int) - ((i : Nat) : Int))) eqg_int (bin_sub (by omega) (by omega)) (Ta false 29 (Bo (Iv (((wideB c).1 : Nat) : Int)) (Iv (((l.length : Nat) : Int) - ((i : Nat) : Int))) (.bool (decide ((((wideB c).1 : Nat) : Int) > (((l.length : Nat) : Int) - ((i : Nat) : Int))))) eqg_int (binOp_gtr _ _ _ _) (Pk false (Nt ?_)))))))))))))
 cases hb2 : (decide ((((wideB c).1 : Nat) : Int) > (((l.length : Nat) : Int) - ((i : Nat) : Int))))
 rotate_left 1
 · have hsh : ((wideB c).1 == 0 || decide ((wideB c).1 > l.length - i)) = true := by have h9 := hb2; simp only [decide_eq_true_eq] at h9; rw [hz, Bool.false_or, decide_eq_true_eq]; omega
   refine Ts (Av (.int .i32 65533) (Av (Iv 1) (Av (.bool false) (Nr (At_thenR ?_)))))
   have e9 := decode_short hc hsh
   refine At_ret3 results169 (fun w q => ⟨?_, q⟩)
   rw [e9.1, e9.2]; try rfl
 have hsh : ((wideB c).1 == 0 || decide ((wideB c).1 > l.length - i)) = false := by have h9 := hb2; simp only [decide_eq_false_iff_not] at h9; rw [hz, Bool.false_or, decide_eq_false_iff_not]; omega
 have hn1 : 1 ≤ (wideB c).1 ∧ (wideB c).1 ≤ l.length - i := by have h9 := hb2; simp only [decide_eq_false_iff_not] at h9; simp only [beq_eq_false_iff_ne, ne_eq] at hz; omega
 refine Fz (Mv (Sl bb l.length cap) (Mv (Iv i) (Bo (Iv i) (Iv 1) (Iv (((i : Nat) : Int) + 1)) eqg_int (bin_add (by omega) (by omega)) (Mv (Iv i) (Mv (Iv (((wideB c).1 : Nat) : Int)) (Bo (Iv i) (Iv (((wideB c).1 : Nat) : Int)) (Iv (((i : Nat) : Int) + (((wideB c).1 : Nat) : Int))) eqg_int (bin_add (by omega) (by omega)) (WL_rd (rd_sliceLH (i := (i + 1)) (j := (i + (wideB c).1)) runUnderlying22 sizeOf5 rfl rfl rfl (by omega) (by omega) (by omega) (by omega)) (WL_rd (rd_lenBsl (i := i + 1) (j := i + (wideB c).1) runUnderlying22 rfl) (Mv (Iv 0) (Nt (WC_block (WC_loopF (α := Nat × Nat) (fun x => x.1 ≤ (wideB c).1 - 1 ∧ contR ((l.drop (i + 1)).take ((wideB c).1 - 1)) (wideB c).2 = contR (((l.drop (i + 1)).take ((wideB c).1 - 1)).drop x.1) x.2 ∧ (2 ≤ (wideB c).1 → x.1 = 0 → x.2 < 32) ∧ (x.1 ≤ 1 → x.2 < 2048) ∧ (x.1 ≤ 2 → x.2 < 131072) ∧ x.2 < 8388608) (fun x => [(7, Iv (((wideB c).1 : Nat) : Int)), (43, bslV bb (i + 1) (i + (wideB c).1) cap), (44, Iv ((i + (wideB c).1 - (i + 1) : Nat) : Int)), (45, Iv x.1), (8, .int .i32 x.2)]) (fun x => Cl bb 5 (l.map u8v ++ sp) :: F) (fun x => (wideB c).1 - x.1) (0, ((wideB c).2)) (show 0 ≤ (wideB c).1 - 1 ∧ contR ((l.drop (i + 1)).take ((wideB c).1 - 1)) (wideB c).2 = contR (((l.drop (i + 1)).take ((wideB c).1 - 1)).drop 0) ((wideB c).2) ∧ (2 ≤ (wideB c).1 → 0 = 0 → ((wideB c).2) < 32) ∧ (0 ≤ 1 → ((wideB c).2) < 2048) ∧ (0 ≤ 2 → ((wideB c).2) < 131072) ∧ ((wideB c).2) < 8388608 from ⟨by omega, rfl, by omega, by omega, by omega, by omega⟩) ⟨rfl, rfl, rfl, rfl, rfl, trivial⟩ (E1 Z0) ?_))))))))))))
 rintro ⟨k, r⟩ σ hpre
 replace hpre : k ≤ (wideB c).1 - 1 ∧ contR ((l.drop (i + 1)).take ((wideB c).1 - 1)) (wideB c).2 = contR (((l.drop (i + 1)).take ((wideB c).1 - 1)).drop k) r ∧ (2 ≤ (wideB c).1 → k = 0 → r < 32) ∧ (k ≤ 1 → r < 2048) ∧ (k ≤ 2 → r < 131072) ∧ r < 8388608 := hpre
 obtain ⟨hp1, hp2, hp3, hp4, hp5, hp6⟩ := id hpre
 show WC prog _ _ _ (upds σ [(7, Iv (((wideB c).1 : Nat) : Int)), (43, bslV bb (i + 1) (i + (wideB c).1) cap), (44, Iv ((i + (wideB c).1 - (i + 1) : Nat) : Int)), (45, Iv k), (8, .int .i32 r)]) _ (Cl bb 5 (l.map u8v ++ sp) :: F)
 refine Sr (Bo (Iv k) (Iv ((i + (wideB c).1 - (i + 1) : Nat) : Int)) (.bool (decide (((k : Nat) : Int) < ((i + (wideB c).1 - (i + 1) : Nat) : Int)))) eqg_int (binOp_lss _ _ _ _) (Nt (WC_seq ?_)))
 cases hb3 : (decide (((k : Nat) : Int) < ((i + (wideB c).1 - (i + 1) : Nat) : Int)))
 · refine WC_false rfl (WC_exit (At_thenX (At_loopX (At_blockX (At_then (Sz (Mv (.int .i32 r) (Mv (Iv (((wideB c).1 : Nat) : Int)) (WL_callQ (Δ := []) (v := .bool (fitsB r (wideB c).1)) call212 rfl (c_fits r (wideB c).1) (.nil) (WL_rd (rd_not (b := fitsB r (wideB c).1) rfl) (Nt ?_)))))))))))
   cases hb4 : (!(fitsB r (wideB c).1))
   rotate_left 1
   · refine Ts (Av (.int .i32 65533) (Av (Iv 1) (Av (.bool false) (Nr (At_thenR ?_)))))
     have hkn : k = (wideB c).1 - 1 := by have h9 := hb3; simp only [decide_eq_false_iff_not] at h9; omega
     have hS : contR ((l.drop (i + 1)).take ((wideB c).1 - 1)) (wideB c).2 = some r := by rw [hp2, List.drop_eq_nil_of_le (by rw [List.length_take]; omega)]; rfl
     have e9 := decode_fit (b := false) hc hsh hS (by have h9 := hb4; simpa using h9)
     refine At_ret3 results169 (fun w q => ⟨?_, q⟩)
     rw [e9.1, e9.2]; try rfl
   refine Fx (Mv (.int .i32 r) (Mv (Iv (((wideB c).1 : Nat) : Int)) (Av (.int .i32 r) (Av (Iv (((wideB c).1 : Nat) : Int)) (Av (.bool true) (Nr ?_))))))
   have hkn : k = (wideB c).1 - 1 := by have h9 := hb3; simp only [decide_eq_false_iff_not] at h9; omega
   have hS : contR ((l.drop (i + 1)).take ((wideB c).1 - 1)) (wideB c).2 = some r := by rw [hp2, List.drop_eq_nil_of_le (by rw [List.length_take]; omega)]; rfl
   have e9 := decode_fit (b := true) hc hsh hS (by have h9 := hb4; simpa using h9)
   refine At_ret3 results169 (fun w q => ⟨?_, q⟩)
   rw [e9.1, e9.2]; try rfl
 have hk : k < (wideB c).1 - 1 := by have h9 := hb3; simp only [decide_eq_true_eq] at h9; omega
 obtain ⟨c2, hc2⟩ : ∃ c2, l[i + 1 + k]? = some c2 := ⟨l[i + 1 + k]'(by omega), List.getElem?_eq_getElem _⟩
 have hc8 : c2.toNat < 256 := c2.toNat_lt
 refine WC_true rfl (WC_skip (At_then (WC_seq (WC_block (Sr (WL_rd (rd_idxBsl (i := i + 1) (j := i + (wideB c).1) (k := k) runUnderlying22 sizeOf5 rfl rfl rfl (by omega) (by omega)) (Lo bb (i + 1 + k) (u8v c2) isAgg5 Z0 (bytes_get hc2) (Av (.int .u8 c2.toNat) (Nz (Mv (.int .u8 c2.toNat) (Bo (.int .u8 c2.toNat) (.int .u64 6) (.int .u8 ((c2.toNat / 64 : Nat) : Int)) eqg_int (bin_shr 6 (by decide)) (Bo (.int .u8 ((c2.toNat / 64 : Nat) : Int)) (.int .u8 2) (.bool (((c2.toNat / 64 : Nat) : Int) != 2)) eqg_int (binOp_neq _ _ _ _) (Nt ?_)))))))))))))
 cases hb5 : (((c2.toNat / 64 : Nat) : Int) != 2)
 · refine Fs (WC_region (Mv (.int .i32 r) (Bo (.int .i32 r) (.int .u64 6) (.int .i32 ((r * 64 : Nat) : Int)) eqg_int (bin_shl 6 (by decide) (IntWalk.i32_in _ ⟨by omega, by omega⟩)) (Mv (.int .u8 c2.toNat) (Bo (.int .u8 c2.toNat) (.int .u8 63) (.int .u8 ((c2.toNat % 64 : Nat) : Int)) eqg_int (bin_and8 6 (by omega) (by decide)) (WL_rd (rd_conv (a := ((c2.toNat % 64 : Nat) : Int)) (q := .i32) rfl underlying5 underlying21 (IntWalk.i32_in _ ⟨by omega, by omega⟩)) (Bo (.int .i32 ((r * 64 : Nat) : Int)) (.int .i32 ((c2.toNat % 64 : Nat) : Int)) (.int .i32 ((r * 64 + c2.toNat % 64 : Nat) : Int)) eqg_int (bin_or6 (by omega) (by simp only [IntKind.bits]; omega) (IntWalk.i32_in _ ⟨by omega, by omega⟩)) (Av (.int .i32 ((r * 64 + c2.toNat % 64 : Nat) : Int)) (WL_nil (At_blockN (At_then (WC_region (Bo (Iv k) (Iv 1) (Iv (((k : Nat) : Int) + 1)) eqg_int (bin_add (by omega) (by omega)) (Mv (Iv (((k : Nat) : Int) + 1)) (WL_nil ?_)))))))))))))))
   exact At_againF ((k + 1), (r * 64 + c2.toNat % 64)) (⟨by omega, by rw [hp2, seg_dropc hk hc2, contR, decide_eq_true (by have h9 := hb5; simp only [bne_eq_false_iff_eq] at h9; omega)]; rfl, by omega, by omega, by omega, by omega⟩) ⟨rfl, rfl, rfl, congrArg (Value.int .i64) (show ((k : Nat) : Int) + 1 = ((k + 1 : Nat) : Int) by omega), rfl, trivial⟩ (E1 Z0) (show (wideB c).1 - (k + 1) < (wideB c).1 - k from by omega)
 refine Ts (Av (.int .i32 65533) (Av (Iv 1) (Av (.bool false) (Nr (At_thenR (At_blockR (At_thenR (At_loopR (At_blockR (At_thenR ?_))))))))))
 have e9 := decode_bad hc hsh (by rw [hp2, seg_dropc hk hc2, contR, decide_eq_false (by have h9 := hb5; simp only [bne_iff_ne, ne_eq] at h9; omega)]; rfl)
 refine At_ret3 results169 (fun w q => ⟨?_, q⟩)
 rw [e9.1, e9.2]; try rfl
end
end Go.Proofs

namespace Go.Px
attribute [local semireducible] WL WC At
section
variable {P : Program} {n : Nat} {Q : Post} {ρ : Env} {ds : List Deferred} {Γ Γ' Γ'' : List HP} {ops : Array Oper} {rest : List Oper} {d : Option Tmp} {ty : TypeId} {pos : String} {af : Array Edge} {gd : Option (Nat × Bool)}
theorem run_appendS {w : World} {t u e : TypeId} {i : TypeInfo} (ht : P.underlying t = some (.slice e)) (hu : P.underlying u = some .string) (hi : P.info? e = some i) (hz : i.zero = some (.int .u8 0))
 (hsize : i.size = 1) (hby : i.bytes = 1) {v : Value} {m : Nat} {xs : List Value} {str : ByteArray}
 (hbound : m + str.size ≤ 70368744177664) (s : Sat (Arr e 1 v m xs :: Γ) w) :
 ∃ v' w', (Builtin.append_ #[t, u] ty #[v, .string str]).run P w = .ok v' w' ∧ Sat (Arr e 1 v' (m + str.size) (xs ++ Lib.strCells str) :: Γ) w' := by
 have hlen : (xs ++ Lib.strCells str).length = (m + str.size) * 1 := by
  obtain ⟨_, _, _, ⟨hx, _⟩, _⟩ := s
  rw [List.length_append, hx, Lib.strCells_length]; omega
 have sB : Sat Γ w := sep_drop s
 have grown : ∀ (old : Nat), old < m + str.size → ∀ w', w'.heap = w.heap.push (.cells (xs.toArray ++ (Lib.strCells str).toArray ++ Builtin.zeroCells (Value.int .u8 0).cells (grownCap w (m + str.size) old e - (m + str.size))) e) → w'.os = w.os → w'.output = w.output →
  Sat (Arr e 1 (.slice (some ⟨w.heap.size, 0, none⟩) (m + str.size) (grownCap w (m + str.size) old e)) (m + str.size) (xs ++ Lib.strCells str) :: Γ) w' := by
  intro old ho w' hw' eo eu
  have hge := grownCap_ge w (m + str.size) old e
  have hcm : grownCap w (m + str.size) old e ≤ maxLen := grownCap_le_maxLen w (m + str.size) old e (by unfold maxLen; omega)
  have hp := Sat.push sB hw' eo eu
  refine Sat.mono hp (Ent.head fun h p => ⟨hlen, .inr ⟨w.heap.size, _, (Builtin.zeroCells (Value.int .u8 0).cells (grownCap w (m + str.size) old e - (m + str.size))).toList, rfl, hge, hcm, ?_, ?_⟩⟩)
  · have hz1 : (Value.int IntKind.u8 0).cells.size = 1 := rfl
    rw [List.length_append, hlen, Array.length_toList, size_zeroCells, hz1, ← Nat.add_mul]
    congr 1; omega
  have e1 : ((xs ++ Lib.strCells str) ++ (Builtin.zeroCells (Value.int .u8 0).cells (grownCap w (m + str.size) old e - (m + str.size))).toList).toArray = xs.toArray ++ (Lib.strCells str).toArray ++ Builtin.zeroCells (Value.int .u8 0).cells (grownCap w (m + str.size) old e - (m + str.size)) := by
   apply Array.ext'; simp
  unfold Cl
  rw [e1]; exact p
 obtain ⟨h₁, h₂, hd, ⟨hx, hv⟩, hr⟩ := s
 rcases hv with ⟨rfl, rfl⟩ | ⟨b, cap, sp, rfl, hmc, hcm, hcs, hblk⟩
 · have hxs : xs = [] := List.eq_nil_of_length_eq_zero (by simpa using hx)
   subst hxs
   by_cases hm2 : str.size = 0
   · have hn : Lib.strCells str = [] := List.eq_nil_of_length_eq_zero (by rw [Lib.strCells_length]; exact hm2)
     refine ⟨.slice none 0 0, w, ?_, ?_⟩
     · simp [Builtin.append_, run_underlying ht, run_underlying hu, sizeOf, typeInfo, hi, Builtin.lenOf, Builtin.firstCells, hm2]
     rw [hn, hm2]; simpa using (Sat.mono sB (arr_nil e 1 _))
   have hr := run_append_nil_string (P := P) w t u ty e i (.int .u8 0) ht hu hi hz str (by omega) (by omega) (by rw [hby]; omega)
   have hg := grown 0 (by omega) (w.drew.alloc (.cells (str.data.map (fun b => Value.int .u8 b.toNat) ++ Builtin.zeroCells (Value.int .u8 0).cells (grownCap w str.size 0 e - str.size)) e)) (by
    rw [heap_drew_alloc]
    have : (Lib.strCells str).toArray = str.data.map (fun b => Value.int .u8 b.toNat) := by unfold Lib.strCells; apply Array.ext'; simp
    simp [this]) rfl rfl
   simp only [Nat.zero_add, List.nil_append] at hg ⊢
   exact ⟨_, _, hr, hg⟩
 have sC : Sat (Cl b e (xs ++ sp) :: Γ) w := ⟨h₁, h₂, hd, hblk, hr⟩
 have hg := Sat.blk sC
 by_cases hroom : m + str.size ≤ cap
 rotate_left 1
 · have hr := Lib.run_append_grow_string (P := P) w t u ty e i (.int .u8 0) ht hu hi hz ⟨b, 0, none⟩ m cap xs (by rw [hsize]; exact hx) (fun j u hj => by
    rw [Addr.add_lit]
    refine cell_of_block hg ?_
    have hlt := (List.getElem?_eq_some_iff.1 hj).1
    simp only [Nat.zero_add, List.getElem?_toArray]
    rw [List.getElem?_append_left hlt]; exact hj) str (by omega) (by omega) (growslice_fits (by omega) (by rw [hby]; omega))
   exact ⟨_, _, hr, grown cap (by omega) _ (by rw [heap_drew_alloc]) rfl rfl⟩
 have hr := Lib.run_append_room_string (P := P) w t u ty e i ht hu hi hsize b m cap (xs ++ sp).toArray hg str hroom (by rw [List.size_toArray, hcs]; omega)
 refine ⟨_, _, hr, ?_⟩
 have hp := Sat.put sC (setRow_get (c' := ((xs ++ sp).toArray.toList.take m ++ Lib.strCells str ++ (xs ++ sp).toArray.toList.drop (m + str.size)).toArray) hg) fun c hc => setRow_ne hc
 refine Sat.mono hp (Ent.head fun h p => ⟨hlen, .inr ⟨b, cap, (sp.drop str.size), rfl, hroom, hcm, ?_, ?_⟩⟩)
 · simp only [List.length_append, List.length_drop, Lib.strCells_length] at hcs ⊢
   rw [hx] at hcs ⊢
   omega
 unfold Cl
 have hxm : xs.length = m := by simpa using hx
 have e1 : (xs ++ sp).toArray.toList.take m ++ Lib.strCells str ++ (xs ++ sp).toArray.toList.drop (m + str.size) = (xs ++ Lib.strCells str) ++ sp.drop str.size := by
  simp only [← hxm]
  rw [List.take_left', List.drop_append]
  · simp
  rfl
 rw [e1] at p
 exact p
end
end Go.Px
namespace Go.Proofs
open Go.Px Tryz
attribute [local semireducible] WL WC At WD
def BY (v : Option Addr × Nat × Nat) (s : Bs) : HP := Arr 5 1 (slV v) s.length (s.map u8v)
theorem strCells_bs (s : Bs) : Lib.strCells (bs s) = s.map u8v := by unfold Lib.strCells bs; simp
theorem Tryz.info5 : prog.info? 5 = some t5 := by kernel_rfl
section
variable {n : Nat} {Q : Post} {ρ : Env} {ds : List Deferred} {Γ Γ' Γ'' F : List HP} {ops : Array Oper} {rest : List Oper} {d : Option Tmp} {t : Tmp} {ty : TypeId} {pos : String} {af : Array Edge} {gd : Option (Nat × Bool)} {xs : List Operand} {ats : Array TypeId} {f : FuncId} {args : List Value}
theorem ef_appBs {x y : Operand} {v : Option Addr × Nat × Nat} {s a : Bs} (hx : evE n ρ x = slV v) (hy : evE n ρ y = .string (bs a)) (hs : Sel Γ (BY v s) Γ') (hb : s.length + a.length ≤ 70368744177664) :
 Ef prog n ρ ⟨d, .call ⟨.builtin .append, #[x, y], #[22, 9]⟩, ty, pos, af, gd⟩ Γ slV (fun v' => BY v' (s ++ a) :: Γ') := fun w q => by
 have q := q.mono hs.ent
 obtain ⟨v', w', hr, hS⟩ := run_appendS (ty := ty) (t := 22) (u := 9) underlying22 underlying9 info5 rfl rfl rfl (str := bs a) (by rw [bs_size]; exact hb) q
 rw [bs_size, strCells_bs, ← List.map_append, ← List.length_append] at hS
 obtain ⟨s', rfl, _⟩ : ∃ s', v' = slV s' ∧ s'.2.1 = (s ++ a).length := by
  obtain ⟨h1, h2, d, p, _⟩ := hS
  exact arr_slice p
 refine ⟨s', w', ?_, hS⟩
 simp only [execOp, resolve, invoke, builtin, Sem.run_bind, Sem.run_pure, Result.andThen_ok, List.map_toArray, List.map_cons, List.map_nil, hx, hy, hr]
theorem ef_appB1 {x y : Operand} {v : Option Addr × Nat × Nat} {s : Bs} {c : UInt8} {b2 : Nat} (hx : evE n ρ x = slV v) (hy : evE n ρ y = .slice (some ⟨b2, 0, none⟩) 1 1) (hs : Sels Γ [BY v s, Cl b2 5 [u8v c]] Γ') (hb : s.length ≤ 70368744177664) :
 Ef prog n ρ ⟨d, .call ⟨.builtin .append, #[x, y], #[22, 22]⟩, ty, pos, af, gd⟩ Γ slV (fun v' => BY v' (s ++ [c]) :: Γ') := fun w q => by
 have q : Sat (BY v s :: Cl b2 5 [u8v c] :: Γ') w := q.mono hs.ent
 obtain ⟨s', w', hr, hS⟩ := ef_append (d := d) (ty := ty) (pos := pos) (af := af) (gd := gd) (e := 5) (z := .int .u8 0) (sz := 1) (bytes := 1) (m := s.length) (m2 := 1) (c2 := 1) (o2 := 0) (news := [u8v c]) underlying22 info5 rfl rfl rfl rfl (by decide) (by decide) hx hy .zero .zero rfl rfl rfl (by omega) w q
 refine ⟨s', w', hr, ?_⟩
 have hS : Sat (Arr 5 1 (slV s') (s.length + 1) (s.map u8v ++ [u8v c]) :: Γ') w' := hS.mono (Ent.tail (Ent.dropHead (.refl _)))
 have e1 : (s ++ [c]).length = s.length + 1 := by simp
 have e2 : (s ++ [c]).map u8v = s.map u8v ++ [u8v c] := by simp
 unfold BY
 rw [e1, e2]; exact hS
theorem WL_callX {α : Type} {Δ0 : List HP} {Δ : α → List HP} {v : α → Value} (hC : ∀ args w, (callFunc f args).run prog w = .ok (.enter f args) w) (hx : xs.map (evE n ρ) = args)
 (con : ∀ F w, Sat (Δ0 ++ F) w → Calls prog f args.toArray w fun e w' => ∃ a, e = .returned (v a) ∧ Sat (Δ a ++ F) w') (hs : Sels Γ Δ0 F)
 (hok : ∀ a, WL prog n ops rest Q (upd ρ t (v a)) ds (Δ a ++ F)) : WL prog n ops (⟨some t, .call ⟨.value (.func f), xs.toArray, ats⟩, ty, pos, af, none⟩ :: rest) Q ρ ds Γ :=
 WL_call (args := args.toArray) hC (args_map hx) (fun w s => con F w (s.mono hs.ent)) (fun v' w h => by obtain ⟨a, h, s⟩ := h; cases h; exact hok a w s) (fun c w h => by obtain ⟨a, h, _⟩ := h; cases h) (fun w h => by obtain ⟨a, h, _⟩ := h; cases h)
end
end Go.Proofs
