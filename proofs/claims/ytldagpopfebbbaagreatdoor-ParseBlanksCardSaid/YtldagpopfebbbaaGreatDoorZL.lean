/- A range over a function: the statement, a round, a call of yield; marks at a function's end. -/
import Derived.Test.YtldagpopfebbbaaGreatDoorZK
import Derived.RangeFuncRecord
import Derived.RangeFuncSeq
import Derived.RangeFuncCalls
import Derived.OrdersIn
set_option linter.unusedVariables false
set_option linter.unusedSimpArgs false
namespace Go.Proofs
open Go.Px Tryz
section
variable {pb tb cap K : Nat} {L : List Tk} {g : NT → M PT} {gx : GX} {rx : RX}
theorem blanksK_le {l : Bs} : ∀ {k i : Nat} {b : Bool} {j : Nat}, blanksK l k i = some (b, j) → i ≤ l.length → i ≤ j ∧ j ≤ l.length
 | 0, i, b, j, h, _ => by cases h
 | k + 1, i, b, j, h, hi => by
  rw [blanksK] at h
  cases hc : l[i]? with
  | none => rw [hc] at h; cases h; exact ⟨Nat.le_refl _, hi⟩
  | some c =>
   have hil := (List.getElem?_eq_some_iff.1 hc).1
   rw [hc] at h
   dsimp only at h
   cases g1 : blankB c <;> rw [g1] at h
   case true => have := blanksK_le h (by omega); omega
   cases g2 : hasB l i [47, 47] <;> rw [g2] at h
   case true =>
    simp only [cond_true, cond_false] at h
    have hr : i + runOf (fun c => c != 10) l i ≤ l.length := by
     unfold runOf
     have h1 : ((l.drop i).takeWhile fun c => c != 10).length ≤ (l.drop i).length := (List.takeWhile_sublist _).length_le
     rw [List.length_drop] at h1
     omega
    have := blanksK_le h hr; omega
   cases g3 : hasB l i [47, 42] <;> rw [g3] at h
   case false => cases h; exact ⟨Nat.le_refl _, hi⟩
   simp only [cond_true, cond_false] at h
   have hl2 := hasB_len g3 (by decide)
   simp only [List.length_cons, List.length_nil] at hl2
   cases g4 : decide (Lib.index (l.drop (i + 2)) [42, 47] < 0) <;> rw [g4] at h
   case true => cases h; exact ⟨Nat.le_refl _, hi⟩
   simp only [cond_false] at h
   have h0 : ¬ Lib.index (l.drop (i + 2)) [42, 47] < 0 := by simpa using g4
   have hrm := Lib.index_room (l.drop (i + 2)) [42, 47] (by omega)
   simp only [List.length_drop, List.length_cons, List.length_nil] at hrm
   have := blanksK_le h (by omega); omega
def resT (t : Tk) (j : Nat) : Tk := bif t.kind == 0 then ⟨0, [], j, 0⟩ else t
def resA (t : Tk) (j : Nat) : Int := bif t.kind == 0 then j else t.en
def lastP (so : SV) : Value := .pointer (so.1.map fun a => ⟨a.block, so.2.1 - 1, none⟩)
theorem rd_idxOB {n : Nat} {ρ : Env} {Γ Γ' : List HP} {d : Option Tmp} {ty : TypeId} {pos : String} {af : Array Edge} {gd : Option (Nat × Bool)} {x y : Operand} {so : SV} {o : Bool} {op : List Bool} {a : Int} {k : IntKind} (hx : evE n ρ x = slV so) (hy : evE n ρ y = .int k a) (ha : a = (((o :: op).length : Nat) : Int) - 1) (hs : Sel Γ (OB so (o :: op)) Γ') :
 Rd prog n ρ ⟨d, .indexAddr 132 x y, ty, pos, af, gd⟩ Γ (lastP so) := fun w q => by
 obtain ⟨_, _, _, p, _⟩ := q.mono hs.ent
 obtain ⟨_, hv⟩ := ob_parts p
 rcases hv with ⟨_, h⟩ | ⟨b, cap, sp, rfl, hc, _⟩
 · cases h
 simp only [List.length_cons] at ha hc ⊢
 have := rd_indexAddr (P := prog) (n := n) (ρ := ρ) (Γ := Γ) (d := d) (ty := ty) (pos := pos) (af := af) (gd := gd) runUnderlying132 sizeOf4 hx hy (by omega) (by simp only [List.length_cons]; omega) w q
 rw [this]
 unfold lastP
 simp only [Option.map_some, List.length_cons]
 have e : 0 + a.toNat * 1 = op.length + 1 - 1 := by omega
 rw [e]
theorem rd_ldOB {n : Nat} {ρ : Env} {Γ Γ' : List HP} {d : Option Tmp} {ty : TypeId} {pos : String} {af : Array Edge} {gd : Option (Nat × Bool)} {x : Operand} {so : SV} {o : Bool} {op : List Bool} (hx : evE n ρ x = lastP so) (hs : Sel Γ (OB so (o :: op)) Γ') :
 Rd prog n ρ ⟨d, .load 4 x, ty, pos, af, gd⟩ Γ (.bool o) := fun w q => by
 have q := q.mono hs.ent
 obtain ⟨h1, h2, hd, p, hr⟩ := id q
 obtain ⟨_, hv⟩ := ob_parts p
 rcases hv with ⟨_, h⟩ | ⟨b, cap, sp, rfl, hc, hcl⟩
 · cases h
 have qC : Sat (Cl b 4 ((o :: op).reverse.map Value.bool ++ sp) :: Γ') w := ⟨h1, h2, hd, hcl, hr⟩
 refine rd_load1' (b := b) (o := op.length) (v := .bool o) (l := (o :: op).reverse.map Value.bool ++ sp) isAgg4 ?_ Z0 ?_ w qC
 · rw [hx]; unfold lastP; simp
 simp
theorem c_next1 {l : Bs} {i j K : Nat} {sb bb cap : Nat} {sp : List Value} {so : SV} {op : List Bool} (hcap : l.length ≤ cap) (hl : l.length ≤ 1048576) (hi : i ≤ l.length) (hop : op.length ≤ 1099511627776) (hB : blanksK l K i = some (false, j)) : ∀ F w, Sat ([Cl sb 134 [Sl bb l.length cap, Iv i, slV so], Cl bb 5 (l.map u8v ++ sp), OB so op, (GMx gx)] ++ F) w → Calls prog 72 [ptr sb].toArray w fun e w' => e = .returned (.tuple #[tkVal ⟨0, [], j, 0⟩, .bool false]) ∧ Sat ([Cl sb 134 [Sl bb l.length cap, Iv j, slV so], Cl bb 5 (l.map u8v ++ sp), OB so op, (GMx gx)] ++ F) w' := by
 intro F
 obtain ⟨hij, hjl9⟩ := blanksK_le hB hi
 refine calls_of_WC (fn := f72) func72 rfl rfl (Sr (WL_ef (ef_alloc (l := [Iv 0, Tx [], Iv 0, Iv 0]) zeroValue47 rfl) fun b1 => Av (.bool false) (Ny (Mv (ptr sb) (WL_callP (Δ0 := [Cl sb 134 [Sl bb l.length cap, Iv i, slV so], Cl bb 5 (l.map u8v ++ sp), (GMx gx)]) (Δ := [Cl sb 134 [Sl bb l.length cap, Iv j, slV so], Cl bb 5 (l.map u8v ++ sp), (GMx gx)]) (v := .bool false) call106 rfl (c_blanks hcap hl hi hB) (K3 Z1 Z1 Z2) (Av (.bool false) (Ny (Mv (ptr sb) (Nc sb 0 (Fa sb 0 fa134_1 (Lo sb 1 (Iv j) isAgg3 Z0 rfl (WL_rd (rd_build (vs := [(2, Iv j)]) (v := .agg #[Iv 0, Tx [], Iv j, Iv 0]) rfl (bd47_2 _ rfl )) (WL_ef (ef_alloc (l := [Iv 0, Tx [], Iv 0, Iv 0]) zeroValue47 rfl) fun b2 => Sa b2 0 [Iv 0, Tx [], Iv j, Iv 0] sizeOf47 Z0 (.put (.put (.put (.put .done)))) (Nz (Mv (.bool false) (WL_rd (rd_not (b := false) rfl) (Nt (Ts (WL_rd (rd_loadN (b := b2) (o := 0) (vs := [Iv 0, Tx [], Iv j, Iv 0]) isAgg47 sizeOf47 rfl Z0 rfl rfl) (Sa b1 0 [Iv 0, Tx [], Iv j, Iv 0] sizeOf47 Z4 (.put (.put (.put (.put .done)))) (Av (.bool false) (Nr (At_thenR ?_)))))))))))))))))))))))
 exact At_retCV results72 isAgg47 sizeOf47 rfl Z0 rfl (fun w q => ⟨rfl, q.mono (En Z2 (En Z2 (En Z3 (En Z2 D2))))⟩)
theorem c_next2 {l : Bs} {i j K : Nat} {sb bb cap : Nat} {sp : List Value} {so : SV} {op : List Bool} (hcap : l.length ≤ cap) (hl : l.length ≤ 1048576) (hi : i ≤ l.length) (hop : op.length ≤ 1099511627776) (hB : blanksK l K i = some (true, j)) (hj : j = l.length) : ∀ F w, Sat ([Cl sb 134 [Sl bb l.length cap, Iv i, slV so], Cl bb 5 (l.map u8v ++ sp), OB so op, (GMx gx)] ++ F) w → Calls prog 72 [ptr sb].toArray w fun e w' => e = .returned (.tuple #[tkVal ⟨10, [], j, j⟩, .bool true]) ∧ Sat ([Cl sb 134 [Sl bb l.length cap, Iv j, slV so], Cl bb 5 (l.map u8v ++ sp), OB so op, (GMx gx)] ++ F) w' := by
 intro F
 obtain ⟨hij, hjl9⟩ := blanksK_le hB hi
 refine calls_of_WC (fn := f72) func72 rfl rfl (Sr (WL_ef (ef_alloc (l := [Iv 0, Tx [], Iv 0, Iv 0]) zeroValue47 rfl) fun b1 => Av (.bool false) (Ny (Mv (ptr sb) (WL_callP (Δ0 := [Cl sb 134 [Sl bb l.length cap, Iv i, slV so], Cl bb 5 (l.map u8v ++ sp), (GMx gx)]) (Δ := [Cl sb 134 [Sl bb l.length cap, Iv j, slV so], Cl bb 5 (l.map u8v ++ sp), (GMx gx)]) (v := .bool true) call106 rfl (c_blanks hcap hl hi hB) (K3 Z1 Z1 Z2) (Av (.bool true) (Ny (Mv (ptr sb) (Nc sb 0 (Fa sb 0 fa134_1 (Lo sb 1 (Iv j) isAgg3 Z0 rfl (WL_rd (rd_build (vs := [(2, Iv j)]) (v := .agg #[Iv 0, Tx [], Iv j, Iv 0]) rfl (bd47_2 _ rfl )) (WL_ef (ef_alloc (l := [Iv 0, Tx [], Iv 0, Iv 0]) zeroValue47 rfl) fun b2 => Sa b2 0 [Iv 0, Tx [], Iv j, Iv 0] sizeOf47 Z0 (.put (.put (.put (.put .done)))) (Nz (Mv (.bool true) (WL_rd (rd_not (b := true) rfl) (Nt (Fs (WC_seq (WC_seq (WC_draw [] [Cl sb 134 [Sl bb l.length cap, Iv j, slV so]] mixed (Dt 0 rfl rfl (Q0 (K1 Z1)) (Rm (ptr sb) rfl) (Dt 1 rfl rfl (Q0 (K1 Z1)) (Rn sb 0 rfl) (Dt 2 rfl rfl (Q0 (K1 Z1)) (Rf sb 0 fa134_1 rfl) (Dt 3 rfl rfl (Q0 (K1 Z1)) (Rl sb 1 (Iv j) isAgg3 rfl Z0 rfl) (Dt 4 rfl rfl (Q0 (K1 Z1)) (Rm (ptr sb) rfl) (Dt 5 rfl rfl (Q0 (K1 Z1)) (Rn sb 0 rfl) (Dt 6 rfl rfl (Q0 (K1 Z1)) (Rf sb 0 fa134_0 rfl) (Dt 7 rfl rfl (Q0 (K1 Z1)) (Rl sb 0 (Sl bb l.length cap) isAgg22 rfl Z0 rfl) (Dt 8 rfl rfl (Q0 (K1 Z1)) (rd_lenS (a := some ⟨bb, 0, none⟩) (k := l.length) runUnderlying22 rfl) (Dt 9 rfl rfl (Q0 (K1 Z1)) (Rb (Iv j) (Iv l.length) (.bool true) rfl rfl eqg_int (by rw [binOp_eql]; rw [beq_iff_eq.2 (by omega)])) ?_)))))))))))))))))))))))))))))))
 refine WD_done (by kernel_rfl) ?_ _
 refine At_then (WC_true rfl (WC_seq (WC_draw [9, 10] [Cl sb 134 [Sl bb l.length cap, Iv j, slV so]] mixed (Dt 0 rfl rfl (Q0 (K1 Z1)) (Rm (ptr sb) rfl) (Dt 1 rfl rfl (Q0 (K1 Z1)) (Rn sb 0 rfl) (Dt 2 rfl rfl (Q0 (K1 Z1)) (Rf sb 0 fa134_1 rfl) (Dt 3 rfl rfl (Q0 (K1 Z1)) (Rl sb 1 (Iv j) isAgg3 rfl Z0 rfl) (Dt 4 rfl rfl (Q0 (K1 Z1)) (Rm (ptr sb) rfl) (Dt 5 rfl rfl (Q0 (K1 Z1)) (Rn sb 0 rfl) (Dt 6 rfl rfl (Q0 (K1 Z1)) (Rf sb 0 fa134_1 rfl) (Dt 7 rfl rfl (Q0 (K1 Z1)) (Rl sb 1 (Iv j) isAgg3 rfl Z0 rfl) (Dt 8 rfl rfl (Q0 (K1 Z1)) (rd_build (vs := [(0, Iv 10), (2, Iv j), (3, Iv j)]) (v := .agg #[Iv 10, Tx [], Iv j, Iv j]) rfl (bd47_0_2_3 _ _ _ rfl rfl rfl )) (WD_ef0 9 (by kernel_rfl) rfl rfl rfl (ef_store (b := b1) (o := 0) (v := .agg #[Iv 10, Tx [], Iv j, Iv j]) (vs := [Iv 10, Tx [], Iv j, Iv j]) sizeOf47 rfl rfl rfl rfl rfl Z4 (.put (.put (.put (.put .done))))) (late_vac (i := 9) (by kernel_rfl) (by decide)) (WD_rd 10 (by kernel_rfl) rfl rfl rfl (Ra (.bool true) rfl) (late_vac (i := 10) (by kernel_rfl) (by decide)) ?_))))))))))))))
 refine WD_done (by kernel_rfl) ?_ _
 refine At_then (WC_ret (At_thenR ?_))
 exact At_retCV results72 isAgg47 sizeOf47 rfl Z0 rfl (fun w q => ⟨rfl, q.mono (En Z2 (En Z2 (En Z3 (En Z2 D2))))⟩)
theorem c_next3 {l : Bs} {i j K : Nat} {sb bb cap : Nat} {sp : List Value} {so : SV} {op : List Bool} {c : UInt8} {t : Tk} {op' : List Bool} (hcap : l.length ≤ cap) (hl : l.length ≤ 1048576) (hi : i ≤ l.length) (hop : op.length ≤ 1099511627776) (hB : blanksK l K i = some (true, j)) (hc : l[j]? = some c) (ht : tokenK l K j op = some (t, op')) : ∀ F w, Sat ([Cl sb 134 [Sl bb l.length cap, Iv i, slV so], Cl bb 5 (l.map u8v ++ sp), OB so op, (GMx gx)] ++ F) w → Calls prog 72 [ptr sb].toArray w fun e w' => ∃ s9 : SV, e = .returned (.tuple #[tkVal (resT t j), .bool (!(t.kind == 0))]) ∧ Sat ([Cl sb 134 [Sl bb l.length cap, Iv (resA t j), slV s9], Cl bb 5 (l.map u8v ++ sp), OB s9 op', (GMx gx)] ++ F) w' := by
 intro F
 obtain ⟨hij, hjl9⟩ := blanksK_le hB hi
 have hjl : j < l.length := (List.getElem?_eq_some_iff.1 hc).1
 rw [tokenK, hc] at ht
 dsimp only at ht
 refine calls_of_WC (fn := f72) func72 rfl rfl (Sr (WL_ef (ef_alloc (l := [Iv 0, Tx [], Iv 0, Iv 0]) zeroValue47 rfl) fun b1 => Av (.bool false) (Ny (Mv (ptr sb) (WL_callP (Δ0 := [Cl sb 134 [Sl bb l.length cap, Iv i, slV so], Cl bb 5 (l.map u8v ++ sp), (GMx gx)]) (Δ := [Cl sb 134 [Sl bb l.length cap, Iv j, slV so], Cl bb 5 (l.map u8v ++ sp), (GMx gx)]) (v := .bool true) call106 rfl (c_blanks hcap hl hi hB) (K3 Z1 Z1 Z2) (Av (.bool true) (Ny (Mv (ptr sb) (Nc sb 0 (Fa sb 0 fa134_1 (Lo sb 1 (Iv j) isAgg3 Z0 rfl (WL_rd (rd_build (vs := [(2, Iv j)]) (v := .agg #[Iv 0, Tx [], Iv j, Iv 0]) rfl (bd47_2 _ rfl )) (WL_ef (ef_alloc (l := [Iv 0, Tx [], Iv 0, Iv 0]) zeroValue47 rfl) fun b2 => Sa b2 0 [Iv 0, Tx [], Iv j, Iv 0] sizeOf47 Z0 (.put (.put (.put (.put .done)))) (Nz (Mv (.bool true) (WL_rd (rd_not (b := true) rfl) (Nt (Fs (WC_seq (WC_seq (WC_draw [] [Cl sb 134 [Sl bb l.length cap, Iv j, slV so]] mixed (Dt 0 rfl rfl (Q0 (K1 Z1)) (Rm (ptr sb) rfl) (Dt 1 rfl rfl (Q0 (K1 Z1)) (Rn sb 0 rfl) (Dt 2 rfl rfl (Q0 (K1 Z1)) (Rf sb 0 fa134_1 rfl) (Dt 3 rfl rfl (Q0 (K1 Z1)) (Rl sb 1 (Iv j) isAgg3 rfl Z0 rfl) (Dt 4 rfl rfl (Q0 (K1 Z1)) (Rm (ptr sb) rfl) (Dt 5 rfl rfl (Q0 (K1 Z1)) (Rn sb 0 rfl) (Dt 6 rfl rfl (Q0 (K1 Z1)) (Rf sb 0 fa134_0 rfl) (Dt 7 rfl rfl (Q0 (K1 Z1)) (Rl sb 0 (Sl bb l.length cap) isAgg22 rfl Z0 rfl) (Dt 8 rfl rfl (Q0 (K1 Z1)) (rd_lenS (a := some ⟨bb, 0, none⟩) (k := l.length) runUnderlying22 rfl) (Dt 9 rfl rfl (Q0 (K1 Z1)) (Rb (Iv j) (Iv l.length) (.bool false) rfl rfl eqg_int (by rw [binOp_eql]; rw [beq_eq_false_iff_ne.2 (by omega)])) ?_)))))))))))))))))))))))))))))))
 refine WD_done (by kernel_rfl) ?_ _
 refine At_then (Fs (WC_seq (WC_seq (WC_draw [10] [Cl sb 134 [Sl bb l.length cap, Iv j, slV so], Cl bb 5 (l.map u8v ++ sp)] mixed (Dt 0 rfl rfl (Q0 (K2 Z1 Z1)) (Rm (ptr sb) rfl) (Dt 1 rfl rfl (Q0 (K2 Z1 Z1)) (Rn sb 0 rfl) (Dt 2 rfl rfl (Q0 (K2 Z1 Z1)) (Rf sb 0 fa134_0 rfl) (Dt 3 rfl rfl (Q0 (K2 Z1 Z1)) (Rl sb 0 (Sl bb l.length cap) isAgg22 rfl Z0 rfl) (Dt 4 rfl rfl (Q0 (K2 Z1 Z1)) (Rm (ptr sb) rfl) (Dt 5 rfl rfl (Q0 (K2 Z1 Z1)) (Rn sb 0 rfl) (Dt 6 rfl rfl (Q0 (K2 Z1 Z1)) (Rf sb 0 fa134_1 rfl) (Dt 7 rfl rfl (Q0 (K2 Z1 Z1)) (Rl sb 1 (Iv j) isAgg3 rfl Z0 rfl) (Dt 8 rfl rfl (Q0 (K2 Z1 Z1)) (rd_idx1 (j := j) runUnderlying22 sizeOf5 rfl rfl (by omega) (by omega)) (Dt 9 rfl rfl (Q0 (K2 Z1 Z1)) (Rl bb j (u8v c) isAgg5 rfl Z1 (bytes_get hc)) (WD_rd 10 (by kernel_rfl) rfl rfl rfl (Ra (.int .u8 c.toNat) rfl) (late_vac (i := 10) (by kernel_rfl) (by decide)) ?_)))))))))))))))
 refine WD_done (by kernel_rfl) ?_ _
 refine At_then (WC_block (Sr (Mv (.int .u8 c.toNat) (WL_callQ (Δ := []) (v := .bool (letterB c)) call107 rfl (c_letter c) (.nil) (Av (.bool (letterB c)) (Nt ?_))))))
 cases hb3 : (letterB c)
 rotate_left 1
 · simp only [hb3, cond_true, cond_false] at ht
   have ht2 : wordT l j = t ∧ op = op' := by cases ht; exact ⟨rfl, rfl⟩
   obtain ⟨rfl, rfl⟩ := ht2
   refine Tr (Mv (ptr sb) (WL_callQ (Δ := [Cl sb 134 [Sl bb l.length cap, Iv j, slV so], Cl bb 5 (l.map u8v ++ sp), (GMx gx)]) (v := .agg #[Iv ((wordT l j).kind), .string (bs (wordT l j).text), Iv ((wordT l j).pos), Iv ((wordT l j).en)]) call108 rfl (c_word hcap hl (by omega)) (K3 Z1 Z1 Z1) (Sa b2 0 [Iv ((wordT l j).kind), .string (bs (wordT l j).text), Iv ((wordT l j).pos), Iv ((wordT l j).en)] sizeOf47 Z3 (.put (.put (.put (.put .done)))) (WL_nil (At_blockN (At_then (Sz (Fa b2 0 fa47_0 (Lo b2 0 (Iv ((wordT l j).kind)) isAgg3 Z0 rfl (Bo (Iv ((wordT l j).kind)) (Iv 0) (.bool (((wordT l j).kind) == 0)) eqg_int (binOp_eql _ _ _ _) (Nt ?_)))))))))))
   cases hb35 : (((wordT l j).kind) == 0)
   · refine Fx (Mv (ptr sb) (Fa b2 0 fa47_3 (Lo b2 3 (Iv ((wordT l j).en)) isAgg3 Z0 rfl (Nc sb 0 (Fa sb 0 fa134_1 (S1 sb 1 (Iv ((wordT l j).en)) sizeOf3 Z1 (.skip (.put .done)) (Ny (WL_rd (rd_loadN (b := b2) (o := 0) (vs := [Iv ((wordT l j).kind), .string (bs (wordT l j).text), Iv ((wordT l j).pos), Iv ((wordT l j).en)]) isAgg47 sizeOf47 rfl Z1 rfl rfl) (Sa b1 0 [Iv ((wordT l j).kind), .string (bs (wordT l j).text), Iv ((wordT l j).pos), Iv ((wordT l j).en)] sizeOf47 Z4 (.put (.put (.put (.put .done)))) (Av (.bool true) (Nr ?_)))))))))))
     refine At_retCV results72 isAgg47 sizeOf47 rfl Z0 rfl (fun w q => ⟨so, ?_, ?_⟩)
     · unfold resT; simp only [hb35, cond_true, cond_false]; rfl
     unfold resA; simp only [hb35, cond_true, cond_false]; exact q.mono (En Z1 (En Z2 (En Z3 (En Z2 D2))))
   refine Ts (Mv (ptr sb) (Nc sb 0 (Fa sb 0 fa134_1 (Lo sb 1 (Iv j) isAgg3 Z1 rfl (WL_rd (rd_build (vs := [(2, Iv j)]) (v := .agg #[Iv 0, Tx [], Iv j, Iv 0]) rfl (bd47_2 _ rfl )) (Sa b1 0 [Iv 0, Tx [], Iv j, Iv 0] sizeOf47 Z4 (.put (.put (.put (.put .done)))) (Av (.bool false) (Nr (At_thenR ?_)))))))))
   refine At_retCV results72 isAgg47 sizeOf47 rfl Z0 rfl (fun w q => ⟨so, ?_, ?_⟩)
   · unfold resT; simp only [hb35, cond_true, cond_false]; rfl
   unfold resA; simp only [hb35, cond_true, cond_false]; exact q.mono (En Z2 (En Z2 (En Z3 (En Z2 D2))))
 simp only [hb3, cond_true, cond_false] at ht
 refine WC_false rfl (Sr (Mv (.int .u8 c.toNat) (WL_callQ (Δ := []) (v := .bool (digitB c)) call109 rfl (c_digit c) (.nil) (Av (.bool (digitB c)) (Nt ?_)))))
 cases hb4 : (digitB c)
 rotate_left 1
 · simp only [hb4, cond_true, cond_false] at ht
   have ht2 : numberT l j = t ∧ op = op' := by cases ht; exact ⟨rfl, rfl⟩
   obtain ⟨rfl, rfl⟩ := ht2
   refine Tr (Mv (ptr sb) (WL_callQ (Δ := [Cl sb 134 [Sl bb l.length cap, Iv j, slV so], Cl bb 5 (l.map u8v ++ sp)]) (v := .agg #[Iv ((numberT l j).kind), .string (bs (numberT l j).text), Iv ((numberT l j).pos), Iv ((numberT l j).en)]) call110 rfl (c_numberS hcap hl hc) (K2 Z1 Z1) (Sa b2 0 [Iv ((numberT l j).kind), .string (bs (numberT l j).text), Iv ((numberT l j).pos), Iv ((numberT l j).en)] sizeOf47 Z2 (.put (.put (.put (.put .done)))) (WL_nil (At_blockN (At_then (Sz (Fa b2 0 fa47_0 (Lo b2 0 (Iv ((numberT l j).kind)) isAgg3 Z0 rfl (Bo (Iv ((numberT l j).kind)) (Iv 0) (.bool (((numberT l j).kind) == 0)) eqg_int (binOp_eql _ _ _ _) (Nt ?_)))))))))))
   cases hb34 : (((numberT l j).kind) == 0)
   · refine Fx (Mv (ptr sb) (Fa b2 0 fa47_3 (Lo b2 3 (Iv ((numberT l j).en)) isAgg3 Z0 rfl (Nc sb 0 (Fa sb 0 fa134_1 (S1 sb 1 (Iv ((numberT l j).en)) sizeOf3 Z1 (.skip (.put .done)) (Ny (WL_rd (rd_loadN (b := b2) (o := 0) (vs := [Iv ((numberT l j).kind), .string (bs (numberT l j).text), Iv ((numberT l j).pos), Iv ((numberT l j).en)]) isAgg47 sizeOf47 rfl Z1 rfl rfl) (Sa b1 0 [Iv ((numberT l j).kind), .string (bs (numberT l j).text), Iv ((numberT l j).pos), Iv ((numberT l j).en)] sizeOf47 Z4 (.put (.put (.put (.put .done)))) (Av (.bool true) (Nr ?_)))))))))))
     refine At_retCV results72 isAgg47 sizeOf47 rfl Z0 rfl (fun w q => ⟨so, ?_, ?_⟩)
     · unfold resT; simp only [hb34, cond_true, cond_false]; rfl
     unfold resA; simp only [hb34, cond_true, cond_false]; exact q.mono (En Z1 (En Z2 (En Z3 (En Z2 D2))))
   refine Ts (Mv (ptr sb) (Nc sb 0 (Fa sb 0 fa134_1 (Lo sb 1 (Iv j) isAgg3 Z1 rfl (WL_rd (rd_build (vs := [(2, Iv j)]) (v := .agg #[Iv 0, Tx [], Iv j, Iv 0]) rfl (bd47_2 _ rfl )) (Sa b1 0 [Iv 0, Tx [], Iv j, Iv 0] sizeOf47 Z4 (.put (.put (.put (.put .done)))) (Av (.bool false) (Nr (At_thenR ?_)))))))))
   refine At_retCV results72 isAgg47 sizeOf47 rfl Z0 rfl (fun w q => ⟨so, ?_, ?_⟩)
   · unfold resT; simp only [hb34, cond_true, cond_false]; rfl
   unfold resA; simp only [hb34, cond_true, cond_false]; exact q.mono (En Z2 (En Z2 (En Z3 (En Z2 D2))))
 simp only [hb4, cond_true, cond_false] at ht
 refine WC_false rfl (Sr (Mv (.int .u8 c.toNat) (Bo (.int .u8 c.toNat) (.int .u8 34) (.bool (((c.toNat : Nat) : Int) == 34)) eqg_int (binOp_eql _ _ _ _) (Mv (.bool (((c.toNat : Nat) : Int) == 34)) ?_))))
 cases hb5 : (((c.toNat : Nat) : Int) == 34)
 rotate_left 1
 · have g32 : (c == 34) = true := u8_t hb5
   simp only [g32, cond_true, cond_false, Bool.true_or, Bool.false_or, Bool.true_and, Bool.false_and] at ht
   obtain ⟨t0, hqk⟩ : ∃ t0, quotedK l j c K (j + 1) [] = some t0 := by cases h9 : quotedK l j c K (j + 1) [] with | none => rw [h9] at ht; cases ht | some t0 => exact ⟨t0, rfl⟩
   rw [hqk] at ht
   have ht2 : t0 = t ∧ op = op' := by cases ht; exact ⟨rfl, rfl⟩
   obtain ⟨rfl, rfl⟩ := ht2
   refine Pa true 61 (Pa true 61 (Pk true (Av (.bool true) (Nt (Tr (Mv (ptr sb) (Mv (.int .u8 c.toNat) (WL_callQ (Δ := [Cl sb 134 [Sl bb l.length cap, Iv j, slV so], Cl bb 5 (l.map u8v ++ sp)]) (v := .agg #[Iv t0.kind, Tx t0.text, Iv t0.pos, Iv t0.en]) call111 rfl (c_quoted hcap hl hjl hqk) (K2 Z1 Z1) (Sa b2 0 [Iv t0.kind, Tx t0.text, Iv t0.pos, Iv t0.en] sizeOf47 Z2 (.put (.put (.put (.put .done)))) (WL_nil (At_blockN (At_then (Sz (Fa b2 0 fa47_0 (Lo b2 0 (Iv t0.kind) isAgg3 Z0 rfl (Bo (Iv t0.kind) (Iv 0) (.bool (t0.kind == 0)) eqg_int (binOp_eql _ _ _ _) (Nt ?_)))))))))))))))))
   cases hb33 : (t0.kind == 0)
   · refine Fx (Mv (ptr sb) (Fa b2 0 fa47_3 (Lo b2 3 (Iv t0.en) isAgg3 Z0 rfl (Nc sb 0 (Fa sb 0 fa134_1 (S1 sb 1 (Iv t0.en) sizeOf3 Z1 (.skip (.put .done)) (Ny (WL_rd (rd_loadN (b := b2) (o := 0) (vs := [Iv t0.kind, Tx t0.text, Iv t0.pos, Iv t0.en]) isAgg47 sizeOf47 rfl Z1 rfl rfl) (Sa b1 0 [Iv t0.kind, Tx t0.text, Iv t0.pos, Iv t0.en] sizeOf47 Z4 (.put (.put (.put (.put .done)))) (Av (.bool true) (Nr ?_)))))))))))
     refine At_retCV results72 isAgg47 sizeOf47 rfl Z0 rfl (fun w q => ⟨so, ?_, ?_⟩)
     · unfold resT; simp only [hb33, cond_true, cond_false]; rfl
     unfold resA; simp only [hb33, cond_true, cond_false]; exact q.mono (En Z1 (En Z2 (En Z3 (En Z2 D2))))
   refine Ts (Mv (ptr sb) (Nc sb 0 (Fa sb 0 fa134_1 (Lo sb 1 (Iv j) isAgg3 Z1 rfl (WL_rd (rd_build (vs := [(2, Iv j)]) (v := .agg #[Iv 0, Tx [], Iv j, Iv 0]) rfl (bd47_2 _ rfl )) (Sa b1 0 [Iv 0, Tx [], Iv j, Iv 0] sizeOf47 Z4 (.put (.put (.put (.put .done)))) (Av (.bool false) (Nr (At_thenR ?_)))))))))
   refine At_retCV results72 isAgg47 sizeOf47 rfl Z0 rfl (fun w q => ⟨so, ?_, ?_⟩)
   · unfold resT; simp only [hb33, cond_true, cond_false]; rfl
   unfold resA; simp only [hb33, cond_true, cond_false]; exact q.mono (En Z2 (En Z2 (En Z3 (En Z2 D2))))
 have g6 : (c == 34) = false := u8_t hb5
 simp only [g6, cond_true, cond_false, Bool.true_or, Bool.false_or, Bool.true_and, Bool.false_and] at ht
 refine Ta false 61 (Mv (.int .u8 c.toNat) (Ta false 61 (Bo (.int .u8 c.toNat) (.int .u8 39) (.bool (((c.toNat : Nat) : Int) == 39)) eqg_int (binOp_eql _ _ _ _) (Pk false (Av (.bool (((c.toNat : Nat) : Int) == 39)) (Nt ?_))))))
 cases hb7 : (((c.toNat : Nat) : Int) == 39)
 rotate_left 1
 · have g30 : (c == 39) = true := u8_t hb7
   simp only [g30, cond_true, cond_false, Bool.true_or, Bool.false_or, Bool.true_and, Bool.false_and] at ht
   obtain ⟨t0, hqk⟩ : ∃ t0, quotedK l j c K (j + 1) [] = some t0 := by cases h9 : quotedK l j c K (j + 1) [] with | none => rw [h9] at ht; cases ht | some t0 => exact ⟨t0, rfl⟩
   rw [hqk] at ht
   have ht2 : t0 = t ∧ op = op' := by cases ht; exact ⟨rfl, rfl⟩
   obtain ⟨rfl, rfl⟩ := ht2
   refine Tr (Mv (ptr sb) (Mv (.int .u8 c.toNat) (WL_callQ (Δ := [Cl sb 134 [Sl bb l.length cap, Iv j, slV so], Cl bb 5 (l.map u8v ++ sp)]) (v := .agg #[Iv t0.kind, Tx t0.text, Iv t0.pos, Iv t0.en]) call111 rfl (c_quoted hcap hl hjl hqk) (K2 Z1 Z1) (Sa b2 0 [Iv t0.kind, Tx t0.text, Iv t0.pos, Iv t0.en] sizeOf47 Z2 (.put (.put (.put (.put .done)))) (WL_nil (At_blockN (At_then (Sz (Fa b2 0 fa47_0 (Lo b2 0 (Iv t0.kind) isAgg3 Z0 rfl (Bo (Iv t0.kind) (Iv 0) (.bool (t0.kind == 0)) eqg_int (binOp_eql _ _ _ _) (Nt ?_))))))))))))
   cases hb31 : (t0.kind == 0)
   rotate_left 1
   · refine Ts (Mv (ptr sb) (Nc sb 0 (Fa sb 0 fa134_1 (Lo sb 1 (Iv j) isAgg3 Z1 rfl (WL_rd (rd_build (vs := [(2, Iv j)]) (v := .agg #[Iv 0, Tx [], Iv j, Iv 0]) rfl (bd47_2 _ rfl )) (Sa b1 0 [Iv 0, Tx [], Iv j, Iv 0] sizeOf47 Z4 (.put (.put (.put (.put .done)))) (Av (.bool false) (Nr (At_thenR ?_)))))))))
     refine At_retCV results72 isAgg47 sizeOf47 rfl Z0 rfl (fun w q => ⟨so, ?_, ?_⟩)
     · unfold resT; simp only [hb31, cond_true, cond_false]; rfl
     unfold resA; simp only [hb31, cond_true, cond_false]; exact q.mono (En Z2 (En Z2 (En Z3 (En Z2 D2))))
   refine Fx (Mv (ptr sb) (Fa b2 0 fa47_3 (Lo b2 3 (Iv t0.en) isAgg3 Z0 rfl (Nc sb 0 (Fa sb 0 fa134_1 (S1 sb 1 (Iv t0.en) sizeOf3 Z1 (.skip (.put .done)) (Ny (WL_rd (rd_loadN (b := b2) (o := 0) (vs := [Iv t0.kind, Tx t0.text, Iv t0.pos, Iv t0.en]) isAgg47 sizeOf47 rfl Z1 rfl rfl) (Sa b1 0 [Iv t0.kind, Tx t0.text, Iv t0.pos, Iv t0.en] sizeOf47 Z4 (.put (.put (.put (.put .done)))) (Av (.bool true) (Nr ?_)))))))))))
   refine At_retCV results72 isAgg47 sizeOf47 rfl Z0 rfl (fun w q => ⟨so, ?_, ?_⟩)
   · unfold resT; simp only [hb31, cond_true, cond_false]; rfl
   unfold resA; simp only [hb31, cond_true, cond_false]; exact q.mono (En Z1 (En Z2 (En Z3 (En Z2 D2))))
 have g8 : (c == 39) = false := u8_t hb7
 simp only [g8, cond_true, cond_false, Bool.true_or, Bool.false_or, Bool.true_and, Bool.false_and] at ht
 refine WC_false rfl (Sr (Mv (.int .u8 c.toNat) (Bo (.int .u8 c.toNat) (.int .u8 96) (.bool (((c.toNat : Nat) : Int) == 96)) eqg_int (binOp_eql _ _ _ _) (Av (.bool (((c.toNat : Nat) : Int) == 96)) (Nt ?_)))))
 cases hb9 : (((c.toNat : Nat) : Int) == 96)
 rotate_left 1
 · have g24 : (c == 96) = true := u8_t hb9
   simp only [g24, cond_true, cond_false, Bool.true_or, Bool.false_or, Bool.true_and, Bool.false_and] at ht
   obtain ⟨t0, hqk⟩ : ∃ t0, pieceK l j 5 6 K (j + 1) [] = some t0 := by cases h9 : pieceK l j 5 6 K (j + 1) [] with | none => rw [h9] at ht; cases ht | some t0 => exact ⟨t0, rfl⟩
   rw [hqk] at ht
   have ht2 : t0 = t ∧ (bif t0.kind == 6 then true :: op else op) = op' := by cases ht; exact ⟨rfl, rfl⟩
   obtain ⟨rfl, rfl⟩ := ht2
   refine Ts (Mv (ptr sb) (WL_callQ (Δ := [Cl sb 134 [Sl bb l.length cap, Iv j, slV so], Cl bb 5 (l.map u8v ++ sp)]) (v := .agg #[Iv t0.kind, Tx t0.text, Iv t0.pos, Iv t0.en]) call112 rfl (c_piece hcap hl hjl hqk) (K2 Z1 Z1) (Sa b2 0 [Iv t0.kind, Tx t0.text, Iv t0.pos, Iv t0.en] sizeOf47 Z2 (.put (.put (.put (.put .done)))) (Ny (Fa b2 0 fa47_0 (Lo b2 0 (Iv t0.kind) isAgg3 Z0 rfl (Bo (Iv t0.kind) (Iv 6) (.bool (t0.kind == 6)) eqg_int (binOp_eql _ _ _ _) (Nt ?_))))))))
   cases hb25 : (t0.kind == 6)
   · refine WC_false rfl (WC_skip (At_blockN (At_then (Sz (Fa b2 0 fa47_0 (Lo b2 0 (Iv t0.kind) isAgg3 Z0 rfl (Bo (Iv t0.kind) (Iv 0) (.bool (t0.kind == 0)) eqg_int (binOp_eql _ _ _ _) (Nt ?_))))))))
     cases hb26 : (t0.kind == 0)
     rotate_left 1
     · refine Ts (Mv (ptr sb) (Nc sb 0 (Fa sb 0 fa134_1 (Lo sb 1 (Iv j) isAgg3 Z1 rfl (WL_rd (rd_build (vs := [(2, Iv j)]) (v := .agg #[Iv 0, Tx [], Iv j, Iv 0]) rfl (bd47_2 _ rfl )) (Sa b1 0 [Iv 0, Tx [], Iv j, Iv 0] sizeOf47 Z4 (.put (.put (.put (.put .done)))) (Av (.bool false) (Nr (At_thenR ?_)))))))))
       refine At_retCV results72 isAgg47 sizeOf47 rfl Z0 rfl (fun w q => ⟨so, ?_, ?_⟩)
       · unfold resT; simp only [hb26, cond_true, cond_false]; rfl
       unfold resA; simp only [hb26, hb25, cond_true, cond_false]; exact q.mono (En Z2 (En Z2 (En Z3 (En Z2 D2))))
     refine Fx (Mv (ptr sb) (Fa b2 0 fa47_3 (Lo b2 3 (Iv t0.en) isAgg3 Z0 rfl (Nc sb 0 (Fa sb 0 fa134_1 (S1 sb 1 (Iv t0.en) sizeOf3 Z1 (.skip (.put .done)) (Ny (WL_rd (rd_loadN (b := b2) (o := 0) (vs := [Iv t0.kind, Tx t0.text, Iv t0.pos, Iv t0.en]) isAgg47 sizeOf47 rfl Z1 rfl rfl) (Sa b1 0 [Iv t0.kind, Tx t0.text, Iv t0.pos, Iv t0.en] sizeOf47 Z4 (.put (.put (.put (.put .done)))) (Av (.bool true) (Nr ?_)))))))))))
     refine At_retCV results72 isAgg47 sizeOf47 rfl Z0 rfl (fun w q => ⟨so, ?_, ?_⟩)
     · unfold resT; simp only [hb26, cond_true, cond_false]; rfl
     unfold resA; simp only [hb26, hb25, cond_true, cond_false]; exact q.mono (En Z1 (En Z2 (En Z3 (En Z2 D2))))
   refine Tr (Mv (ptr sb) (Mv (ptr sb) (Nc sb 0 (Fa sb 0 fa134_2 (Lo sb 2 (slV so) isAgg132 Z1 rfl (Bl 4 [.bool true] (bs132_1 _ rfl ) fun b27 => WL_ef (ef_pushB (op := op) (b := true) rfl rfl (K2 (.succ (.succ Z4)) Z0) (by have := hop; first | omega | (simp at this ⊢; omega))) fun so28 => Nc sb 0 (Fa sb 0 fa134_2 (S1 sb 2 (slV so28) sizeOf132 Z2 (.skip (.skip (.put .done))) (WL_nil (At_blockN (At_then (Sz (Fa b2 0 fa47_0 (Lo b2 0 (Iv t0.kind) isAgg3 Z2 rfl (Bo (Iv t0.kind) (Iv 0) (.bool (t0.kind == 0)) eqg_int (binOp_eql _ _ _ _) (Nt ?_))))))))))))))))
   cases hb29 : (t0.kind == 0)
   rotate_left 1
   · refine Ts (Mv (ptr sb) (Nc sb 0 (Fa sb 0 fa134_1 (Lo sb 1 (Iv j) isAgg3 Z0 rfl (WL_rd (rd_build (vs := [(2, Iv j)]) (v := .agg #[Iv 0, Tx [], Iv j, Iv 0]) rfl (bd47_2 _ rfl )) (Sa b1 0 [Iv 0, Tx [], Iv j, Iv 0] sizeOf47 (.succ Z4) (.put (.put (.put (.put .done)))) (Av (.bool false) (Nr (At_thenR ?_)))))))))
     refine At_retCV results72 isAgg47 sizeOf47 rfl Z0 rfl (fun w q => ⟨so28, ?_, ?_⟩)
     · unfold resT; simp only [hb29, cond_true, cond_false]; rfl
     unfold resA; simp only [hb29, hb25, cond_true, cond_false]; exact q.mono (En Z1 (En Z3 (En Z1 (En Z2 D2))))
   refine Fx (Mv (ptr sb) (Fa b2 0 fa47_3 (Lo b2 3 (Iv t0.en) isAgg3 Z2 rfl (Nc sb 0 (Fa sb 0 fa134_1 (S1 sb 1 (Iv t0.en) sizeOf3 Z0 (.skip (.put .done)) (Ny (WL_rd (rd_loadN (b := b2) (o := 0) (vs := [Iv t0.kind, Tx t0.text, Iv t0.pos, Iv t0.en]) isAgg47 sizeOf47 rfl Z2 rfl rfl) (Sa b1 0 [Iv t0.kind, Tx t0.text, Iv t0.pos, Iv t0.en] sizeOf47 (.succ Z4) (.put (.put (.put (.put .done)))) (Av (.bool true) (Nr ?_)))))))))))
   refine At_retCV results72 isAgg47 sizeOf47 rfl Z0 rfl (fun w q => ⟨so28, ?_, ?_⟩)
   · unfold resT; simp only [hb29, cond_true, cond_false]; rfl
   unfold resA; simp only [hb29, hb25, cond_true, cond_false]; exact q.mono (En Z1 (En Z3 (En Z1 (En Z2 D2))))
 have g10 : (c == 96) = false := u8_t hb9
 simp only [g10, cond_true, cond_false, Bool.true_or, Bool.false_or, Bool.true_and, Bool.false_and] at ht
 refine WC_false rfl (WC_seq ?_)
 cases hb11 : (((c.toNat : Nat) : Int) == 125)
 · have g12 : (c == 125) = false := u8_t hb11
   simp only [g12, cond_true, cond_false, Bool.true_or, Bool.false_or, Bool.true_and, Bool.false_and] at ht
   have ht2 : signL l j signs3 = t ∧ opS (signL l j signs3).text op = op' := by cases ht; exact ⟨rfl, rfl⟩
   obtain ⟨rfl, rfl⟩ := ht2
   refine WC_draw [] [Cl sb 134 [Sl bb l.length cap, Iv j, slV so], OB so op] mixed (Dt 0 rfl rfl (Q0 (K2 Z1 Z4)) (Rm (.int .u8 c.toNat) rfl) (Dt 1 rfl rfl (Q0 (K2 Z1 Z4)) (Rb (u8v c) (.int .u8 125) (.bool false) rfl rfl eqg_int ((binOp_eql _ _ _ _).trans (by rw [hb11]))) (Dt 2 rfl rfl (Q0 (K2 Z1 Z4)) (Rm (.bool false) rfl) (WD_skipG 3 (b' := false) (e := 88) rfl rfl (by kernel_rfl) rfl rfl rfl rfl (Q0 (K2 Z1 Z4)) (WD_skipG 4 (b' := false) (e := 88) rfl rfl (by kernel_rfl) rfl rfl rfl rfl (Q0 (K2 Z1 Z4)) (WD_skipG 5 (b' := false) (e := 88) rfl rfl (by kernel_rfl) rfl rfl rfl rfl (Q0 (K2 Z1 Z4)) (WD_skipG 6 (b' := false) (e := 88) rfl rfl (by kernel_rfl) rfl rfl rfl rfl (Q0 (K2 Z1 Z4)) (WD_skipG 7 (b' := false) (e := 88) rfl rfl (by kernel_rfl) rfl rfl rfl rfl (Q0 (K2 Z1 Z4)) (WD_skipG 8 (b' := false) (e := 88) rfl rfl (by kernel_rfl) rfl rfl rfl rfl (Q0 (K2 Z1 Z4)) (Dt 9 rfl rfl (Q0 (K2 Z1 Z4)) (rd_pick (b := false) rfl) (Dt 10 rfl rfl (Q0 (K2 Z1 Z4)) (Rm (.bool false) rfl) (WD_skipG 11 (b' := false) (e := 96) rfl rfl (by kernel_rfl) rfl rfl rfl rfl (Q0 (K2 Z1 Z4)) (WD_skipG 12 (b' := false) (e := 96) rfl rfl (by kernel_rfl) rfl rfl rfl rfl (Q0 (K2 Z1 Z4)) (WD_skipG 13 (b' := false) (e := 96) rfl rfl (by kernel_rfl) rfl rfl rfl rfl (Q0 (K2 Z1 Z4)) (WD_skipG 14 (b' := false) (e := 96) rfl rfl (by kernel_rfl) rfl rfl rfl rfl (Q0 (K2 Z1 Z4)) (WD_skipG 15 (b' := false) (e := 96) rfl rfl (by kernel_rfl) rfl rfl rfl rfl (Q0 (K2 Z1 Z4)) (WD_skipG 16 (b' := false) (e := 96) rfl rfl (by kernel_rfl) rfl rfl rfl rfl (Q0 (K2 Z1 Z4)) (WD_skipG 17 (b' := false) (e := 96) rfl rfl (by kernel_rfl) rfl rfl rfl rfl (Q0 (K2 Z1 Z4)) (WD_skipG 18 (b' := false) (e := 96) rfl rfl (by kernel_rfl) rfl rfl rfl rfl (Q0 (K2 Z1 Z4)) (WD_skipG 19 (b' := false) (e := 96) rfl rfl (by kernel_rfl) rfl rfl rfl rfl (Q0 (K2 Z1 Z4)) (WD_skipG 20 (b' := false) (e := 96) rfl rfl (by kernel_rfl) rfl rfl rfl rfl (Q0 (K2 Z1 Z4)) (WD_skipG 21 (b' := false) (e := 96) rfl rfl (by kernel_rfl) rfl rfl rfl rfl (Q0 (K2 Z1 Z4)) (WD_skipG 22 (b' := false) (e := 96) rfl rfl (by kernel_rfl) rfl rfl rfl rfl (Q0 (K2 Z1 Z4)) (Dt 23 rfl rfl (Q0 (K2 Z1 Z4)) (rd_pick (b := false) rfl) (Dt 24 rfl rfl (Q0 (K2 Z1 Z4)) (Ra (.bool false) rfl) ?_)))))))))))))))))))))))))
   refine WD_done (by kernel_rfl) ?_ _
   refine At_then (WC_false rfl (WC_region (Mv (ptr sb) (WL_callX (Δ0 := [Cl sb 134 [Sl bb l.length cap, Iv j, slV so], Cl bb 5 (l.map u8v ++ sp), OB so op, (GMx gx)]) (Δ := fun s13 => [Cl sb 134 [Sl bb l.length cap, Iv j, slV s13], Cl bb 5 (l.map u8v ++ sp), OB s13 (opS (signL l j signs3).text op), (GMx gx)]) (v := fun s13 => .agg #[Iv ((signL l j signs3).kind), .string (bs (signL l j signs3).text), Iv ((signL l j signs3).pos), Iv ((signL l j signs3).en)]) call113 rfl (c_sign (so := so) (op := op) hcap hl (by omega) (by first | exact hop | (have := hop; simp at this ⊢; omega))) (K4 Z1 Z1 Z3 Z1) ?_))))
   rintro s13
   refine Sa b2 0 [Iv ((signL l j signs3).kind), .string (bs (signL l j signs3).text), Iv ((signL l j signs3).pos), Iv ((signL l j signs3).en)] sizeOf47 Z4 (.put (.put (.put (.put .done)))) (WL_nil (At_blockN (At_then (Sz (Fa b2 0 fa47_0 (Lo b2 0 (Iv ((signL l j signs3).kind)) isAgg3 Z0 rfl (Bo (Iv ((signL l j signs3).kind)) (Iv 0) (.bool (((signL l j signs3).kind) == 0)) eqg_int (binOp_eql _ _ _ _) (Nt ?_))))))))
   cases hb14 : (((signL l j signs3).kind) == 0)
   rotate_left 1
   · refine Ts (Mv (ptr sb) (Nc sb 0 (Fa sb 0 fa134_1 (Lo sb 1 (Iv j) isAgg3 Z1 rfl (WL_rd (rd_build (vs := [(2, Iv j)]) (v := .agg #[Iv 0, Tx [], Iv j, Iv 0]) rfl (bd47_2 _ rfl )) (Sa b1 0 [Iv 0, Tx [], Iv j, Iv 0] sizeOf47 (.succ Z4) (.put (.put (.put (.put .done)))) (Av (.bool false) (Nr (At_thenR ?_)))))))))
     refine At_retCV results72 isAgg47 sizeOf47 rfl Z0 rfl (fun w q => ⟨s13, ?_, ?_⟩)
     · unfold resT; simp only [hb14, cond_true, cond_false]; rfl
     unfold resA; simp only [hb14, cond_true, cond_false]; exact q.mono (En Z2 (En Z2 (En Z2 (En Z2 D2))))
   refine Fx (Mv (ptr sb) (Fa b2 0 fa47_3 (Lo b2 3 (Iv ((signL l j signs3).en)) isAgg3 Z0 rfl (Nc sb 0 (Fa sb 0 fa134_1 (S1 sb 1 (Iv ((signL l j signs3).en)) sizeOf3 Z1 (.skip (.put .done)) (Ny (WL_rd (rd_loadN (b := b2) (o := 0) (vs := [Iv ((signL l j signs3).kind), .string (bs (signL l j signs3).text), Iv ((signL l j signs3).pos), Iv ((signL l j signs3).en)]) isAgg47 sizeOf47 rfl Z1 rfl rfl) (Sa b1 0 [Iv ((signL l j signs3).kind), .string (bs (signL l j signs3).text), Iv ((signL l j signs3).pos), Iv ((signL l j signs3).en)] sizeOf47 (.succ Z4) (.put (.put (.put (.put .done)))) (Av (.bool true) (Nr ?_)))))))))))
   refine At_retCV results72 isAgg47 sizeOf47 rfl Z0 rfl (fun w q => ⟨s13, ?_, ?_⟩)
   · unfold resT; simp only [hb14, cond_true, cond_false]; rfl
   unfold resA; simp only [hb14, cond_true, cond_false]; exact q.mono (En Z1 (En Z2 (En Z2 (En Z2 D2))))
 have g15 : (c == 125) = true := u8_t hb11
 simp only [g15, cond_true, cond_false, Bool.true_or, Bool.false_or, Bool.true_and, Bool.false_and] at ht
 rcases op with _ | ⟨o, op2⟩
 · have ht : some (signL l j signs3, opS (signL l j signs3).text []) = some (t, op') := ht
   have ht2 : signL l j signs3 = t ∧ opS (signL l j signs3).text [] = op' := by cases ht; exact ⟨rfl, rfl⟩
   obtain ⟨rfl, rfl⟩ := ht2
   refine WC_draw [] [Cl sb 134 [Sl bb l.length cap, Iv j, slV so], OB so []] mixed (Dt 0 rfl rfl (Q0 (K2 Z1 Z4)) (Rm (.int .u8 c.toNat) rfl) (Dt 1 rfl rfl (Q0 (K2 Z1 Z4)) (Rb (u8v c) (.int .u8 125) (.bool true) rfl rfl eqg_int ((binOp_eql _ _ _ _).trans (by rw [hb11]))) (Dt 2 rfl rfl (Q0 (K2 Z1 Z4)) (Rm (.bool true) rfl) (WD_takeG 3 (b' := true) (e := 88) rfl rfl (by kernel_rfl) rfl rfl rfl rfl (Q0 (K2 Z1 Z4)) (Rm (ptr sb) rfl) (WD_takeG 4 (b' := true) (e := 88) rfl rfl (by kernel_rfl) rfl rfl rfl rfl (Q0 (K2 Z1 Z4)) (Rn sb 0 rfl) (WD_takeG 5 (b' := true) (e := 88) rfl rfl (by kernel_rfl) rfl rfl rfl rfl (Q0 (K2 Z1 Z4)) (Rf sb 0 fa134_2 rfl) (WD_takeG 6 (b' := true) (e := 88) rfl rfl (by kernel_rfl) rfl rfl rfl rfl (Q0 (K2 Z1 Z4)) (Rl sb 2 (slV so) isAgg132 rfl Z0 rfl) (WD_takeG 7 (b' := true) (e := 88) rfl rfl (by kernel_rfl) rfl rfl rfl rfl (Q0 (K2 Z1 Z4)) (rd_lenOB (op := []) runUnderlying132 rfl Z1) (WD_takeG 8 (b' := true) (e := 88) rfl rfl (by kernel_rfl) rfl rfl rfl rfl (Q0 (K2 Z1 Z4)) (Rb (Iv (([].length : Nat) : Int)) (Iv 0) (.bool false) rfl rfl eqg_int (by rw [binOp_gtr]; rw [decide_eq_false (by simp)])) (Dt 9 rfl rfl (Q0 (K2 Z1 Z4)) (rd_pick (b := true) rfl) (Dt 10 rfl rfl (Q0 (K2 Z1 Z4)) (Rm (.bool false) rfl) (WD_skipG 11 (b' := false) (e := 96) rfl rfl (by kernel_rfl) rfl rfl rfl rfl (Q0 (K2 Z1 Z4)) (WD_skipG 12 (b' := false) (e := 96) rfl rfl (by kernel_rfl) rfl rfl rfl rfl (Q0 (K2 Z1 Z4)) (WD_skipG 13 (b' := false) (e := 96) rfl rfl (by kernel_rfl) rfl rfl rfl rfl (Q0 (K2 Z1 Z4)) (WD_skipG 14 (b' := false) (e := 96) rfl rfl (by kernel_rfl) rfl rfl rfl rfl (Q0 (K2 Z1 Z4)) (WD_skipG 15 (b' := false) (e := 96) rfl rfl (by kernel_rfl) rfl rfl rfl rfl (Q0 (K2 Z1 Z4)) (WD_skipG 16 (b' := false) (e := 96) rfl rfl (by kernel_rfl) rfl rfl rfl rfl (Q0 (K2 Z1 Z4)) (WD_skipG 17 (b' := false) (e := 96) rfl rfl (by kernel_rfl) rfl rfl rfl rfl (Q0 (K2 Z1 Z4)) (WD_skipG 18 (b' := false) (e := 96) rfl rfl (by kernel_rfl) rfl rfl rfl rfl (Q0 (K2 Z1 Z4)) (WD_skipG 19 (b' := false) (e := 96) rfl rfl (by kernel_rfl) rfl rfl rfl rfl (Q0 (K2 Z1 Z4)) (WD_skipG 20 (b' := false) (e := 96) rfl rfl (by kernel_rfl) rfl rfl rfl rfl (Q0 (K2 Z1 Z4)) (WD_skipG 21 (b' := false) (e := 96) rfl rfl (by kernel_rfl) rfl rfl rfl rfl (Q0 (K2 Z1 Z4)) (WD_skipG 22 (b' := false) (e := 96) rfl rfl (by kernel_rfl) rfl rfl rfl rfl (Q0 (K2 Z1 Z4)) (Dt 23 rfl rfl (Q0 (K2 Z1 Z4)) (rd_pick (b := false) rfl) (Dt 24 rfl rfl (Q0 (K2 Z1 Z4)) (Ra (.bool false) rfl) ?_)))))))))))))))))))))))))
   refine WD_done (by kernel_rfl) ?_ _
   refine At_then (WC_false rfl (WC_region (Mv (ptr sb) (WL_callX (Δ0 := [Cl sb 134 [Sl bb l.length cap, Iv j, slV so], Cl bb 5 (l.map u8v ++ sp), OB so [], (GMx gx)]) (Δ := fun s16 => [Cl sb 134 [Sl bb l.length cap, Iv j, slV s16], Cl bb 5 (l.map u8v ++ sp), OB s16 (opS (signL l j signs3).text []), (GMx gx)]) (v := fun s16 => .agg #[Iv ((signL l j signs3).kind), .string (bs (signL l j signs3).text), Iv ((signL l j signs3).pos), Iv ((signL l j signs3).en)]) call113 rfl (c_sign (so := so) (op := []) hcap hl (by omega) (by first | exact hop | (have := hop; simp at this ⊢; omega))) (K4 Z1 Z1 Z3 Z1) ?_))))
   rintro s16
   refine Sa b2 0 [Iv ((signL l j signs3).kind), .string (bs (signL l j signs3).text), Iv ((signL l j signs3).pos), Iv ((signL l j signs3).en)] sizeOf47 Z4 (.put (.put (.put (.put .done)))) (WL_nil (At_blockN (At_then (Sz (Fa b2 0 fa47_0 (Lo b2 0 (Iv ((signL l j signs3).kind)) isAgg3 Z0 rfl (Bo (Iv ((signL l j signs3).kind)) (Iv 0) (.bool (((signL l j signs3).kind) == 0)) eqg_int (binOp_eql _ _ _ _) (Nt ?_))))))))
   cases hb17 : (((signL l j signs3).kind) == 0)
   rotate_left 1
   · refine Ts (Mv (ptr sb) (Nc sb 0 (Fa sb 0 fa134_1 (Lo sb 1 (Iv j) isAgg3 Z1 rfl (WL_rd (rd_build (vs := [(2, Iv j)]) (v := .agg #[Iv 0, Tx [], Iv j, Iv 0]) rfl (bd47_2 _ rfl )) (Sa b1 0 [Iv 0, Tx [], Iv j, Iv 0] sizeOf47 (.succ Z4) (.put (.put (.put (.put .done)))) (Av (.bool false) (Nr (At_thenR ?_)))))))))
     refine At_retCV results72 isAgg47 sizeOf47 rfl Z0 rfl (fun w q => ⟨s16, ?_, ?_⟩)
     · unfold resT; simp only [hb17, cond_true, cond_false]; rfl
     unfold resA; simp only [hb17, cond_true, cond_false]; exact q.mono (En Z2 (En Z2 (En Z2 (En Z2 D2))))
   refine Fx (Mv (ptr sb) (Fa b2 0 fa47_3 (Lo b2 3 (Iv ((signL l j signs3).en)) isAgg3 Z0 rfl (Nc sb 0 (Fa sb 0 fa134_1 (S1 sb 1 (Iv ((signL l j signs3).en)) sizeOf3 Z1 (.skip (.put .done)) (Ny (WL_rd (rd_loadN (b := b2) (o := 0) (vs := [Iv ((signL l j signs3).kind), .string (bs (signL l j signs3).text), Iv ((signL l j signs3).pos), Iv ((signL l j signs3).en)]) isAgg47 sizeOf47 rfl Z1 rfl rfl) (Sa b1 0 [Iv ((signL l j signs3).kind), .string (bs (signL l j signs3).text), Iv ((signL l j signs3).pos), Iv ((signL l j signs3).en)] sizeOf47 (.succ Z4) (.put (.put (.put (.put .done)))) (Av (.bool true) (Nr ?_)))))))))))
   refine At_retCV results72 isAgg47 sizeOf47 rfl Z0 rfl (fun w q => ⟨s16, ?_, ?_⟩)
   · unfold resT; simp only [hb17, cond_true, cond_false]; rfl
   unfold resA; simp only [hb17, cond_true, cond_false]; exact q.mono (En Z1 (En Z2 (En Z2 (En Z2 D2))))
 refine WC_draw [] [Cl sb 134 [Sl bb l.length cap, Iv j, slV so], OB so (o :: op2)] mixed (Dt 0 rfl rfl (Q0 (K2 Z1 Z4)) (Rm (.int .u8 c.toNat) rfl) (Dt 1 rfl rfl (Q0 (K2 Z1 Z4)) (Rb (u8v c) (.int .u8 125) (.bool true) rfl rfl eqg_int ((binOp_eql _ _ _ _).trans (by rw [hb11]))) (Dt 2 rfl rfl (Q0 (K2 Z1 Z4)) (Rm (.bool true) rfl) (WD_takeG 3 (b' := true) (e := 88) rfl rfl (by kernel_rfl) rfl rfl rfl rfl (Q0 (K2 Z1 Z4)) (Rm (ptr sb) rfl) (WD_takeG 4 (b' := true) (e := 88) rfl rfl (by kernel_rfl) rfl rfl rfl rfl (Q0 (K2 Z1 Z4)) (Rn sb 0 rfl) (WD_takeG 5 (b' := true) (e := 88) rfl rfl (by kernel_rfl) rfl rfl rfl rfl (Q0 (K2 Z1 Z4)) (Rf sb 0 fa134_2 rfl) (WD_takeG 6 (b' := true) (e := 88) rfl rfl (by kernel_rfl) rfl rfl rfl rfl (Q0 (K2 Z1 Z4)) (Rl sb 2 (slV so) isAgg132 rfl Z0 rfl) (WD_takeG 7 (b' := true) (e := 88) rfl rfl (by kernel_rfl) rfl rfl rfl rfl (Q0 (K2 Z1 Z4)) (rd_lenOB (op := (o :: op2)) runUnderlying132 rfl Z1) (WD_takeG 8 (b' := true) (e := 88) rfl rfl (by kernel_rfl) rfl rfl rfl rfl (Q0 (K2 Z1 Z4)) (Rb (Iv (((o :: op2).length : Nat) : Int)) (Iv 0) (.bool true) rfl rfl eqg_int (by rw [binOp_gtr]; rw [decide_eq_true (by simp)])) (Dt 9 rfl rfl (Q0 (K2 Z1 Z4)) (rd_pick (b := true) rfl) (Dt 10 rfl rfl (Q0 (K2 Z1 Z4)) (Rm (.bool true) rfl) (WD_takeG 11 (b' := true) (e := 96) rfl rfl (by kernel_rfl) rfl rfl rfl rfl (Q0 (K2 Z1 Z4)) (Rm (ptr sb) rfl) (WD_takeG 12 (b' := true) (e := 96) rfl rfl (by kernel_rfl) rfl rfl rfl rfl (Q0 (K2 Z1 Z4)) (Rn sb 0 rfl) (WD_takeG 13 (b' := true) (e := 96) rfl rfl (by kernel_rfl) rfl rfl rfl rfl (Q0 (K2 Z1 Z4)) (Rf sb 0 fa134_2 rfl) (WD_takeG 14 (b' := true) (e := 96) rfl rfl (by kernel_rfl) rfl rfl rfl rfl (Q0 (K2 Z1 Z4)) (Rl sb 2 (slV so) isAgg132 rfl Z0 rfl) (WD_takeG 15 (b' := true) (e := 96) rfl rfl (by kernel_rfl) rfl rfl rfl rfl (Q0 (K2 Z1 Z4)) (Rm (ptr sb) rfl) (WD_takeG 16 (b' := true) (e := 96) rfl rfl (by kernel_rfl) rfl rfl rfl rfl (Q0 (K2 Z1 Z4)) (Rn sb 0 rfl) (WD_takeG 17 (b' := true) (e := 96) rfl rfl (by kernel_rfl) rfl rfl rfl rfl (Q0 (K2 Z1 Z4)) (Rf sb 0 fa134_2 rfl) (WD_takeG 18 (b' := true) (e := 96) rfl rfl (by kernel_rfl) rfl rfl rfl rfl (Q0 (K2 Z1 Z4)) (Rl sb 2 (slV so) isAgg132 rfl Z0 rfl) (WD_takeG 19 (b' := true) (e := 96) rfl rfl (by kernel_rfl) rfl rfl rfl rfl (Q0 (K2 Z1 Z4)) (rd_lenOB (op := (o :: op2)) runUnderlying132 rfl Z1) (WD_takeG 20 (b' := true) (e := 96) rfl rfl (by kernel_rfl) rfl rfl rfl rfl (Q0 (K2 Z1 Z4)) (Rb (Iv (((o :: op2).length : Nat) : Int)) (Iv 1) (Iv ((((o :: op2).length : Nat) : Int) - 1)) rfl rfl eqg_int (bin_sub (by simp only [List.length_cons]; omega) (by have := hop; simp only [List.length_cons] at this ⊢; omega))) (WD_takeG 21 (b' := true) (e := 96) rfl rfl (by kernel_rfl) rfl rfl rfl rfl (Q0 (K2 Z1 Z4)) (rd_idxOB (so := so) (op := op2) rfl rfl rfl Z1) (WD_takeG 22 (b' := true) (e := 96) rfl rfl (by kernel_rfl) rfl rfl rfl rfl (Q0 (K2 Z1 Z4)) (rd_ldOB (so := so) (o := o) (op := op2) rfl Z1) (Dt 23 rfl rfl (Q0 (K2 Z1 Z4)) (rd_pick (b := true) rfl) (Dt 24 rfl rfl (Q0 (K2 Z1 Z4)) (Ra (.bool o) rfl) ?_)))))))))))))))))))))))))
 refine WD_done (by kernel_rfl) ?_ _
 refine At_then ?_
 cases hb18 : (o)
 · simp only [List.head?_cons, Option.getD_some, hb18, cond_true, cond_false] at ht
   have ht2 : signL l j signs3 = t ∧ opS (signL l j signs3).text (false :: op2) = op' := by cases ht; exact ⟨rfl, rfl⟩
   obtain ⟨rfl, rfl⟩ := ht2
   refine WC_false rfl (WC_region (Mv (ptr sb) (WL_callX (Δ0 := [Cl sb 134 [Sl bb l.length cap, Iv j, slV so], Cl bb 5 (l.map u8v ++ sp), OB so (false :: op2), (GMx gx)]) (Δ := fun s19 => [Cl sb 134 [Sl bb l.length cap, Iv j, slV s19], Cl bb 5 (l.map u8v ++ sp), OB s19 (opS (signL l j signs3).text (false :: op2)), (GMx gx)]) (v := fun s19 => .agg #[Iv ((signL l j signs3).kind), .string (bs (signL l j signs3).text), Iv ((signL l j signs3).pos), Iv ((signL l j signs3).en)]) call113 rfl (c_sign (so := so) (op := (false :: op2)) hcap hl (by omega) (by first | exact hop | (have := hop; simp at this ⊢; omega))) (K4 Z1 Z1 Z3 Z1) ?_)))
   rintro s19
   refine Sa b2 0 [Iv ((signL l j signs3).kind), .string (bs (signL l j signs3).text), Iv ((signL l j signs3).pos), Iv ((signL l j signs3).en)] sizeOf47 Z4 (.put (.put (.put (.put .done)))) (WL_nil (At_blockN (At_then (Sz (Fa b2 0 fa47_0 (Lo b2 0 (Iv ((signL l j signs3).kind)) isAgg3 Z0 rfl (Bo (Iv ((signL l j signs3).kind)) (Iv 0) (.bool (((signL l j signs3).kind) == 0)) eqg_int (binOp_eql _ _ _ _) (Nt ?_))))))))
   cases hb20 : (((signL l j signs3).kind) == 0)
   rotate_left 1
   · refine Ts (Mv (ptr sb) (Nc sb 0 (Fa sb 0 fa134_1 (Lo sb 1 (Iv j) isAgg3 Z1 rfl (WL_rd (rd_build (vs := [(2, Iv j)]) (v := .agg #[Iv 0, Tx [], Iv j, Iv 0]) rfl (bd47_2 _ rfl )) (Sa b1 0 [Iv 0, Tx [], Iv j, Iv 0] sizeOf47 (.succ Z4) (.put (.put (.put (.put .done)))) (Av (.bool false) (Nr (At_thenR ?_)))))))))
     refine At_retCV results72 isAgg47 sizeOf47 rfl Z0 rfl (fun w q => ⟨s19, ?_, ?_⟩)
     · unfold resT; simp only [hb20, cond_true, cond_false]; rfl
     unfold resA; simp only [hb20, cond_true, cond_false]; exact q.mono (En Z2 (En Z2 (En Z2 (En Z2 D2))))
   refine Fx (Mv (ptr sb) (Fa b2 0 fa47_3 (Lo b2 3 (Iv ((signL l j signs3).en)) isAgg3 Z0 rfl (Nc sb 0 (Fa sb 0 fa134_1 (S1 sb 1 (Iv ((signL l j signs3).en)) sizeOf3 Z1 (.skip (.put .done)) (Ny (WL_rd (rd_loadN (b := b2) (o := 0) (vs := [Iv ((signL l j signs3).kind), .string (bs (signL l j signs3).text), Iv ((signL l j signs3).pos), Iv ((signL l j signs3).en)]) isAgg47 sizeOf47 rfl Z1 rfl rfl) (Sa b1 0 [Iv ((signL l j signs3).kind), .string (bs (signL l j signs3).text), Iv ((signL l j signs3).pos), Iv ((signL l j signs3).en)] sizeOf47 (.succ Z4) (.put (.put (.put (.put .done)))) (Av (.bool true) (Nr ?_)))))))))))
   refine At_retCV results72 isAgg47 sizeOf47 rfl Z0 rfl (fun w q => ⟨s19, ?_, ?_⟩)
   · unfold resT; simp only [hb20, cond_true, cond_false]; rfl
   unfold resA; simp only [hb20, cond_true, cond_false]; exact q.mono (En Z1 (En Z2 (En Z2 (En Z2 D2))))
 simp only [List.head?_cons, Option.getD_some, hb18, cond_true, cond_false] at ht
 obtain ⟨t0, hqk⟩ : ∃ t0, pieceK l j 8 7 K (j + 1) [] = some t0 := by cases h9 : pieceK l j 8 7 K (j + 1) [] with | none => rw [h9] at ht; cases ht | some t0 => exact ⟨t0, rfl⟩
 rw [hqk] at ht
 have ht2 : t0 = t ∧ (bif t0.kind == 8 then (true :: op2).tail else true :: op2) = op' := by cases ht; exact ⟨rfl, rfl⟩
 obtain ⟨rfl, rfl⟩ := ht2
 refine Ts (Mv (ptr sb) (WL_callQ (Δ := [Cl sb 134 [Sl bb l.length cap, Iv j, slV so], Cl bb 5 (l.map u8v ++ sp)]) (v := .agg #[Iv t0.kind, Tx t0.text, Iv t0.pos, Iv t0.en]) call112 rfl (c_piece hcap hl hjl hqk) (K2 Z1 Z1) (Sa b2 0 [Iv t0.kind, Tx t0.text, Iv t0.pos, Iv t0.en] sizeOf47 Z2 (.put (.put (.put (.put .done)))) (Ny (Fa b2 0 fa47_0 (Lo b2 0 (Iv t0.kind) isAgg3 Z0 rfl (Bo (Iv t0.kind) (Iv 8) (.bool (t0.kind == 8)) eqg_int (binOp_eql _ _ _ _) (Nt ?_))))))))
 cases hb21 : (t0.kind == 8)
 · refine WC_false rfl (WC_skip (At_blockN (At_then (Sz (Fa b2 0 fa47_0 (Lo b2 0 (Iv t0.kind) isAgg3 Z0 rfl (Bo (Iv t0.kind) (Iv 0) (.bool (t0.kind == 0)) eqg_int (binOp_eql _ _ _ _) (Nt ?_))))))))
   cases hb22 : (t0.kind == 0)
   rotate_left 1
   · refine Ts (Mv (ptr sb) (Nc sb 0 (Fa sb 0 fa134_1 (Lo sb 1 (Iv j) isAgg3 Z1 rfl (WL_rd (rd_build (vs := [(2, Iv j)]) (v := .agg #[Iv 0, Tx [], Iv j, Iv 0]) rfl (bd47_2 _ rfl )) (Sa b1 0 [Iv 0, Tx [], Iv j, Iv 0] sizeOf47 Z4 (.put (.put (.put (.put .done)))) (Av (.bool false) (Nr (At_thenR ?_)))))))))
     refine At_retCV results72 isAgg47 sizeOf47 rfl Z0 rfl (fun w q => ⟨so, ?_, ?_⟩)
     · unfold resT; simp only [hb22, cond_true, cond_false]; rfl
     unfold resA; simp only [hb22, hb21, cond_true, cond_false]; exact q.mono (En Z2 (En Z2 (En Z3 (En Z2 D2))))
   refine Fx (Mv (ptr sb) (Fa b2 0 fa47_3 (Lo b2 3 (Iv t0.en) isAgg3 Z0 rfl (Nc sb 0 (Fa sb 0 fa134_1 (S1 sb 1 (Iv t0.en) sizeOf3 Z1 (.skip (.put .done)) (Ny (WL_rd (rd_loadN (b := b2) (o := 0) (vs := [Iv t0.kind, Tx t0.text, Iv t0.pos, Iv t0.en]) isAgg47 sizeOf47 rfl Z1 rfl rfl) (Sa b1 0 [Iv t0.kind, Tx t0.text, Iv t0.pos, Iv t0.en] sizeOf47 Z4 (.put (.put (.put (.put .done)))) (Av (.bool true) (Nr ?_)))))))))))
   refine At_retCV results72 isAgg47 sizeOf47 rfl Z0 rfl (fun w q => ⟨so, ?_, ?_⟩)
   · unfold resT; simp only [hb22, cond_true, cond_false]; rfl
   unfold resA; simp only [hb22, hb21, cond_true, cond_false]; exact q.mono (En Z1 (En Z2 (En Z3 (En Z2 D2))))
 refine WC_true rfl (WC_draw [12, 13, 14] [Cl sb 134 [Sl bb l.length cap, Iv j, slV so], OB so (true :: op2)] mixed (Dt 0 rfl rfl (Q0 (K2 Z1 Z4)) (Rm (ptr sb) rfl) (Dt 1 rfl rfl (Q0 (K2 Z1 Z4)) (Rm (ptr sb) rfl) (Dt 2 rfl rfl (Q0 (K2 Z1 Z4)) (Rn sb 0 rfl) (Dt 3 rfl rfl (Q0 (K2 Z1 Z4)) (Rf sb 0 fa134_2 rfl) (Dt 4 rfl rfl (Q0 (K2 Z1 Z4)) (Rl sb 2 (slV so) isAgg132 rfl Z0 rfl) (Dt 5 rfl rfl (Q0 (K2 Z1 Z4)) (Rm (ptr sb) rfl) (Dt 6 rfl rfl (Q0 (K2 Z1 Z4)) (Rn sb 0 rfl) (Dt 7 rfl rfl (Q0 (K2 Z1 Z4)) (Rf sb 0 fa134_2 rfl) (Dt 8 rfl rfl (Q0 (K2 Z1 Z4)) (Rl sb 2 (slV so) isAgg132 rfl Z0 rfl) (Dt 9 rfl rfl (Q0 (K2 Z1 Z4)) (rd_lenOB (op := (true :: op2)) runUnderlying132 rfl Z1) (Dt 10 rfl rfl (Q0 (K2 Z1 Z4)) (Rb (Iv (((o :: op2).length : Nat) : Int)) (Iv 1) (Iv (((o :: op2).length - 1 : Nat) : Int)) rfl rfl eqg_int (bin_subN (by simp) rfl (by have := hop; simp only [List.length_cons] at this ⊢; omega))) (Dt 11 rfl rfl (Q0 (K2 Z1 Z4)) (rd_popB (so := so) (op := (true :: op2)) runUnderlying132 sizeOf4 rfl rfl rfl Z1) (WD_rd 12 (by kernel_rfl) rfl rfl rfl (Rn sb 0 rfl) (late_vac (i := 12) (by kernel_rfl) (by decide)) (WD_rd 13 (by kernel_rfl) rfl rfl rfl (Rf sb 0 fa134_2 rfl) (late_vac (i := 13) (by kernel_rfl) (by decide)) (WD_ef0 14 (by kernel_rfl) rfl rfl rfl (ef_store (b := sb) (o := 2) (v := slV (so.1, (true :: op2).length - 1, so.2.2)) (vs := [slV (so.1, (true :: op2).length - 1, so.2.2)]) sizeOf132 rfl rfl rfl rfl rfl Z1 (.skip (.skip (.put .done)))) (late_vac (i := 14) (by kernel_rfl) (by decide)) ?_))))))))))))))))
 refine WD_done (by kernel_rfl) ?_ _
 refine At_blockN (At_then (Sz (Fa b2 0 fa47_0 (Lo b2 0 (Iv t0.kind) isAgg3 Z1 rfl (Bo (Iv t0.kind) (Iv 0) (.bool (t0.kind == 0)) eqg_int (binOp_eql _ _ _ _) (Nt ?_))))))
 cases hb23 : (t0.kind == 0)
 rotate_left 1
 · refine Ts (Mv (ptr sb) (Nc sb 0 (Fa sb 0 fa134_1 (Lo sb 1 (Iv j) isAgg3 Z0 rfl (WL_rd (rd_build (vs := [(2, Iv j)]) (v := .agg #[Iv 0, Tx [], Iv j, Iv 0]) rfl (bd47_2 _ rfl )) (Sa b1 0 [Iv 0, Tx [], Iv j, Iv 0] sizeOf47 Z4 (.put (.put (.put (.put .done)))) (Av (.bool false) (Nr (At_thenR (At.ent (Ent.trans (Sel.ent (.succ Z4)) ob_pop) ?_))))))))))
   refine At_retCV results72 isAgg47 sizeOf47 rfl Z1 rfl (fun w q => ⟨(so.1, (true :: op2).length - 1, so.2.2), ?_, ?_⟩)
   · unfold resT; simp only [hb23, cond_true, cond_false]; rfl
   unfold resA; simp only [hb23, hb21, cond_true, cond_false]; exact q.mono (En Z2 (En Z3 (En Z0 (En Z2 D2))))
 refine Fx (Mv (ptr sb) (Fa b2 0 fa47_3 (Lo b2 3 (Iv t0.en) isAgg3 Z1 rfl (Nc sb 0 (Fa sb 0 fa134_1 (S1 sb 1 (Iv t0.en) sizeOf3 Z0 (.skip (.put .done)) (Ny (WL_rd (rd_loadN (b := b2) (o := 0) (vs := [Iv t0.kind, Tx t0.text, Iv t0.pos, Iv t0.en]) isAgg47 sizeOf47 rfl Z1 rfl rfl) (Sa b1 0 [Iv t0.kind, Tx t0.text, Iv t0.pos, Iv t0.en] sizeOf47 Z4 (.put (.put (.put (.put .done)))) (Av (.bool true) (Nr (At.ent (Ent.trans (Sel.ent (.succ Z4)) ob_pop) ?_))))))))))))
 refine At_retCV results72 isAgg47 sizeOf47 rfl Z1 rfl (fun w q => ⟨(so.1, (true :: op2).length - 1, so.2.2), ?_, ?_⟩)
 · unfold resT; simp only [hb23, cond_true, cond_false]; rfl
 unfold resA; simp only [hb23, hb21, cond_true, cond_false]; exact q.mono (En Z2 (En Z3 (En Z0 (En Z2 D2))))
end
end Go.Proofs

namespace Go.Px
attribute [local semireducible] WL WC At WD
section
variable {P : Program} {ops : Array Oper} {Qx : Exit → Act → World → Prop} {a : Act} {w : World}
abbrev RF (l : Nat) : Fence := Fence.wide.inRound l
theorem op_in {l : Nat} {o : Oper} {next : Act → World → Prop} (hd : ∀ c, o.op ≠ .defer c) (h : o.wp P a w next Qx) : o.wpIn (RF l) 0 P a w next Qx := by
 refine ⟨fun _ _ => trivial, ?_⟩
 rw [Oper.semAt_eq _ _ _ hd]
 unfold Oper.wp at h
 generalize hx : (execOp a.eval o).run P w = r at h ⊢
 cases r with
 | ok x w' =>
  cases x with
  | value v => exact h
  | skip => exact h
  | defer d => exact h
  | enter f args => exact ⟨fun h0 => absurd h0 (by simp [RF, Fence.wide]), CallsIn.inRound l (callsIn_wide.2 h)⟩
  | row row args => exact ⟨fun h0 => absurd h0 (by simp [RF, Fence.wide]), fun c cs _ => by obtain ⟨v, w9, r9, s9⟩ := h c cs; exact ⟨v, w9, r9, stepsIn_wide.2 s9⟩⟩
  | _ => exact h.elim
 | halt x w' =>
  cases x with
  | panic v => exact h
  | _ => exact h.elim
def tame (o : Oper) : Prop := ∀ c, o.op ≠ .defer c
def tameB (l : List Oper) : Bool := l.all fun o => match o.op with
 | .defer _ => false
 | _ => true
theorem tame_of {l : List Oper} (h : tameB l = true) : ∀ o ∈ l, tame o := fun o ho c e => by
 have := List.all_eq_true.1 h o ho
 rw [e] at this; cases this
theorem list_in {l : Nat} (hQ : ¬ LetsOut Qx) : ∀ (ol : List Oper), (∀ o ∈ ol, tame o) → ∀ a w, wpList P ops Qx ol a w → wpListIn (RF l) 0 P ops Qx ol a w
 | [], _, a, w, h => h
 | o :: rest, ht, a, w, h => by
  unfold wpList at h
  unfold wpListIn
  by_cases hw : Region.wanted o (yielded ops a.tmps) = true
  · rw [if_pos hw] at h ⊢
    rcases h with h | ⟨_, h⟩
    · exact Oper.wpIn_mono (fun a w h => list_in hQ rest (fun o ho => ht o (by simp [ho])) a w h) (op_in (ht o (by simp)) h)
    exact absurd h hQ
  rw [if_neg hw] at h ⊢
  exact ⟨fun _ _ => trivial, list_in hQ rest (fun o ho => ht o (by simp [ho])) _ _ h⟩
theorem any_in {l : Nat} {md : Region.Mode} (hQ : ¬ LetsOut Qx) (ht : ∀ (i : Nat) o, ops[i]? = some o → tame o) : ∀ (fuel : Nat) (L : Array Bool) (a : Act) (w : World), wpAny P md ops Qx fuel L a w → wpAnyIn (RF l) 0 P md ops Qx fuel L a w
 | 0, L, a, w, h => h
 | fuel + 1, L, a, w, h => by
  refine ⟨h.1, fun i hi => ?_⟩
  have h := h.2 i hi
  unfold wpOp at h
  unfold wpOpIn
  cases ho : ops[i]? with
  | none => rw [ho] at h; exact any_in hQ ht fuel _ _ _ h
  | some o =>
   rw [ho] at h
   dsimp only at h ⊢
   by_cases hw : Region.wanted o (yielded ops a.tmps) = true
   · rw [if_pos hw] at h ⊢
     rcases h with h | ⟨_, h⟩
     · exact Oper.wpIn_mono (fun a w h => any_in hQ ht fuel _ a w h) (op_in (ht i o ho) h)
     exact absurd h hQ
   rw [if_neg hw] at h ⊢
   exact ⟨fun _ _ => trivial, any_in hQ ht fuel _ _ _ h⟩
end
section
variable {P : Program} {n l : Nat} {Q : Post} {ρ : Env} {ds : List Deferred} {Γ Δ : List HP}
def WCR (l : Nat) (P : Program) (n : Nat) (c : Code) (Q : Post) (ρ : Env) (ds : List Deferred) (Γ : List HP) : Prop := ∀ w, Sat Γ w → c.wpIn (RF l) 0 P (lift n Q) (actOf n ρ ds) w
def thenR (l : Nat) (P : Program) (n : Nat) (y : Code) (Q : Post) : Post
 | .normal, ρ, ds, w => y.wpIn (RF l) 0 P (lift n Q) (actOf n ρ ds) w
 | e, ρ, ds, w => Q e ρ ds w
def NoOut (Q : Post) : Prop := ∀ ρ ds w, ¬ Q .outgrown ρ ds w
theorem NoOut.lift (h : NoOut Q) : ¬ LetsOut (lift n Q) := fun ⟨a, w, ρ, ds, _, q⟩ => h ρ ds w q
theorem WCR_seq {x y : Code} (h : WCR l P n x (thenR l P n y Q) ρ ds Γ) : WCR l P n (.seq x y) Q ρ ds Γ := fun w s =>
 wpIn_seq (wpIn_mono (h w s) fun e a w q => by
  cases e with
  | panic c => exact q
  | normal => obtain ⟨ρ, ds, rfl, h⟩ := q; exact h
  | _ => exact q)
theorem WCR_region {id : Nat} {ol : List Oper} (hQ : NoOut Q) (ht : tameB ol = true) (h : WL P n ol.toArray ol Q ρ ds Γ) : WCR l P n (.region id ol.toArray false) Q ρ ds Γ := fun w s =>
 wpIn_region_lit (list_in hQ.lift ol (tame_of ht) _ _ (h w s))
theorem WCR_draw {id : Nat} {ol : List Oper} (late : List Nat) (Γ0 : List HP) (hm : P.follows .mixedOrders = true) (hQ : NoOut Q) (ht : tameB ol = true)
 (h : WD P n ol.toArray late Γ0 ol.toArray.size (Array.replicate ol.toArray.size false) Q ρ ds Γ) : WCR l P n (.region id ol.toArray true) Q ρ ds Γ := fun w s =>
 wpIn_region_any hm (any_in hQ.lift (fun i o ho => tame_of ht o (by rw [List.getElem?_toArray] at ho; exact List.mem_of_getElem? ho)) _ _ _ _ (wpAny_of_G _ _ _ _ (h _ (s.of_heap rfl))))
theorem WCR_true {c : Operand} {x y : Code} (hc : evE n ρ c = .bool true) (h : WCR l P n x Q ρ ds Γ) : WCR l P n (.cond c x y) Q ρ ds Γ := fun w s => wpIn_cond_true (by rw [actOf_eval]; exact hc) (h w s)
theorem WCR_false {c : Operand} {x y : Code} (hc : evE n ρ c = .bool false) (h : WCR l P n y Q ρ ds Γ) : WCR l P n (.cond c x y) Q ρ ds Γ := fun w s => wpIn_cond_false (by rw [actOf_eval]; exact hc) (h w s)
theorem WCR_skip (h : At .normal Q ρ ds Γ) : WCR l P n .skip Q ρ ds Γ := fun w s => wpIn_skip ⟨ρ, ds, rfl, h w s⟩
theorem WCR_ret (h : At .ret Q ρ ds Γ) : WCR l P n .ret Q ρ ds Γ := fun w s => wpIn_ret ⟨ρ, ds, rfl, h w s⟩
theorem WCR_block {id : Nat} {c : Code} (h : WCR l P n c (blockQ id Q) ρ ds Γ) : WCR l P n (.block id c) Q ρ ds Γ := fun w s =>
 wpIn_block (wpIn_mono (h w s) fun e a w q => by
  cases e with
  | panic c => exact q
  | exit i =>
   obtain ⟨ρ, ds, rfl, h⟩ := q
   show if i = id then _ else _
   have h : if i = id then Q .normal ρ ds w else Q (.exit i) ρ ds w := h
   by_cases hi : i = id
   · rw [if_pos hi] at h ⊢; exact ⟨ρ, ds, rfl, h⟩
   rw [if_neg hi] at h ⊢; exact ⟨ρ, ds, rfl, h⟩
  | _ => exact q)
theorem At_thenRN {y : Code} (h : WCR l P n y Q ρ ds Γ) : At .normal (thenR l P n y Q) ρ ds Γ := h
theorem At_thenRR {y : Code} (h : At .ret Q ρ ds Γ) : At .ret (thenR l P n y Q) ρ ds Γ := h
end
def bodyQM (P : Program) (fn : Func) (R : Ending → World → Prop) : Post
 | .normal, ρ, ds, w => LeavesInM Fence.wide 0 P fn (actOf fn.ntmps ρ ds).tmps R ds .returning w
 | .ret, ρ, ds, w => LeavesInM Fence.wide 0 P fn (actOf fn.ntmps ρ ds).tmps R ds .returning w
 | _, _, _, _ => False
theorem calls_of_WCM {P : Program} {fn : Func} {f : FuncId} {c : Code} {args : List Value} {R : Ending → World → Prop} {Γ : List HP} (hf : P.funcs[f]? = some fn) (hb : fn.body = some c)
 (hn : Nat.ble args.length fn.ntmps = true) (h : WC P fn.ntmps c (bodyQM P fn R) (ini args) [] Γ) : ∀ w, Sat Γ w → Calls P f args.toArray w R := fun w s => by
 refine (callsIn_wide (n := 0)).1 (callsIn_of_wp_marks hf hb trivial (wpIn_wide.2 ?_))
 rw [ini_act hn]
 refine wp_mono (h w s) ?_
 intro e a w q
 cases e with
 | panic c => obtain ⟨ρ, hk, q⟩ := q; exact q.elim
 | outgrown => obtain ⟨ρ, ds, -, q⟩ := q; exact q.elim
 | normal => obtain ⟨ρ, ds, rfl, q⟩ := q; exact q
 | ret => obtain ⟨ρ, ds, rfl, q⟩ := q; exact q
 | exit i => obtain ⟨ρ, ds, rfl, q⟩ := q; exact q
 | goto i => obtain ⟨ρ, ds, rfl, q⟩ := q; exact q
theorem putObj_sat {D : Nat} {o o' : Obj} {Γ : List HP} {w : World} (s : Sat (Blk D o :: Γ) w) : Sat (Blk D o' :: Γ) (w.putObj D o') := by
 have hb := Sat.blk s
 have hlt : D < w.heap.size := (Array.getElem?_eq_some_iff.1 hb).1
 exact Sat.put s (World.putObj_heap_same hlt) fun c hc => World.putObj_heap_other hc
theorem At_retM {P : Program} {fn : Func} {R : Ending → World → Prop} {ρ : Env} {D : Nat} {Γ Γ' : List HP} (hs : Sel Γ (Blk D (.deferred (some []))) Γ')
 (hR : ∀ w, Sat (Blk D (.deferred none) :: Γ') w → ∃ v, (results fn (actOf fn.ntmps ρ []).tmps).run P w = .ok v w ∧ R (.returned v) w) :
 At .ret (bodyQM P fn R) ρ [{ target := .collected D, args := #[] }] Γ := fun w s => by
 have s := s.mono hs.ent
 refine ⟨by simp, .inl ⟨D, _, rfl, run_takeDeferred (Sat.blk s), ?_⟩⟩
 exact hR _ (putObj_sat s)
theorem res_range {P : Program} {a : Act} {g : Operand} {gf L : Nat} {caps : Array Value} (hg : a.eval g = .func (.func gf) #[] caps) (w : World) :
 (resolve a.eval (rangeCall g L) 0).run P w = .ok { target := .fn (.func gf) caps, args := #[.func (.yield L) #[] #[]] } w := by
 simp only [resolve, hg]
 simp [go_sem]
theorem inv_range {P : Program} {gf L : Nat} {caps : Array Value} (eg : ∀ args w, (callFunc gf args).run P w = .ok (.enter gf args) w) (w : World) :
 (invoke (.fn (.func gf) caps) #[.func (.yield L) #[] #[]]).run P w = .ok (.enter gf (#[.func (.yield L) #[] #[]] ++ caps)) w := by
 simp [invoke, go_sem, eg]
theorem heap_two {Γ : List HP} {w : World} {o1 o2 : Obj} (s : Sat Γ w) : Sat (Blk (w.heap.size + 1) o2 :: Blk w.heap.size o1 :: Γ) ((w.alloc o1).alloc o2) := by
 have s1 : Sat (Blk w.heap.size o1 :: Γ) (w.alloc o1) := Sat.push s rfl
 have s2 : Sat (Blk (w.alloc o1).heap.size o2 :: Blk w.heap.size o1 :: Γ) ((w.alloc o1).alloc o2) := Sat.push s1 rfl
 have e : (w.alloc o1).heap.size = w.heap.size + 1 := World.size_alloc _ _
 rw [e] at s2; exact s2
theorem WC_range {P : Program} {n : Nat} {Q : Post} {ρ : Env} {ds : List Deferred} {Γ : List HP} {g : Operand} {ps : Array Tmp} {assign body : Code} {gf : FuncId} {caps : Array Value}
 (hg : evE n ρ g = .func (.func gf) #[] caps) (eg : ∀ args w, (callFunc gf args).run P w = .ok (.enter gf args) w)
 (h : ∀ fn D L w, Sat (Blk L (.loop { state := .ready, pending := none, fn, tmps := (actOf n ρ ds).tmps, params := ps, assign, body, defers := D }) :: Blk D (.deferred (some [])) :: Γ) w →
  Calls P gf (#[.func (.yield L) #[] #[]] ++ caps) w (rangePost Fence.wide 0 P L (lift n Q) (actOf n ρ ({ target := .collected D, args := #[] } :: ds)))) :
 WC P n (.rangeFunc g ps assign body) Q ρ ds Γ := by
 intro w s
 show (Code.rangeFunc g ps assign body).wp P (lift n Q) (actOf n ρ ds) w
 rw [← wpIn_wide (n := 0)]
 apply wpIn_rangeFunc
 intro fn _
 obtain ⟨W1, hW⟩ : ∃ W1, W1 = (w.alloc (.deferred (some []))).alloc (.loop { state := .ready, pending := none, fn, tmps := (actOf n ρ ds).tmps, params := ps, assign, body, defers := w.heap.size }) := ⟨_, rfl⟩
 have s2 : Sat (Blk (w.heap.size + 1) (.loop { state := .ready, pending := none, fn, tmps := (actOf n ρ ds).tmps, params := ps, assign, body, defers := w.heap.size }) :: Blk w.heap.size (.deferred (some [])) :: Γ) W1 := by
  rw [hW]; exact heap_two s
 refine ⟨w.heap.size + 1, [{ target := .collected w.heap.size, args := #[] }], W1, { target := .fn (.func gf) caps, args := #[.func (.yield (w.heap.size + 1)) #[] #[]] }, W1, gf,
  #[.func (.yield (w.heap.size + 1)) #[] #[]] ++ caps, W1, ?_, ?_, ?_, ?_, ?_, ?_⟩
 · rw [hW]; exact run_enterLoop_outer _ _ _ _ _
 · exact res_range (by rw [actOf_eval]; exact hg) W1
 · exact fun _ _ => trivial
 · exact inv_range eg W1
 · exact fun h0 => absurd h0 (by simp [Fence.wide])
 have h2 := callsIn_wide (n := 0 - 1) |>.2 (h fn w.heap.size (w.heap.size + 1) W1 s2)
 exact h2
section
variable {P : Program} {n : Nat} {Q : Post} {ρ : Env} {ds : List Deferred} {Γ Γ' : List HP} {ops : Array Oper} {rest : List Oper} {d : Option Tmp} {t : Tmp} {op : Op} {ty : TypeId} {pos : String} {af : Array Edge}
def WLF (P : Program) (n : Nat) (ops : Array Oper) (l : List Oper) (Q : Post) (ρ : Env) (ds : List Deferred) (Γ : List HP) : Prop := ∀ w, Sat Γ w → wpListIn Fence.wide 0 P ops (lift n Q) l (actOf n ρ ds) w
theorem WC_regionF {id : Nat} {l : List Oper} (h : WLF P n l.toArray l Q ρ ds Γ) : WC P n (.region id l.toArray false) Q ρ ds Γ := fun w s => (wpIn_wide (n := 0)).1 (wpIn_region_lit (h w s))
theorem WLF_nil (h : At .normal Q ρ ds Γ) : WLF P n ops [] Q ρ ds Γ := fun w s => ⟨ρ, ds, rfl, h w s⟩
theorem WLF_rd {v : Value} (h : Rd P n ρ ⟨some t, op, ty, pos, af, none⟩ Γ v) (hd : ∀ c, op ≠ .defer c := by intro c h; cases h) (k : WLF P n ops rest Q (upd ρ t v) ds Γ) :
 WLF P n ops (⟨some t, op, ty, pos, af, none⟩ :: rest) Q ρ ds Γ := fun w s => wpListIn_plain rfl fun K hK => by
 refine ⟨fun _ _ => trivial, ?_⟩
 have e : Oper.semAt Fence.wide.round (actOf n ρ ds).eval ⟨some t, op, ty, pos, af, none⟩ = execOp (actOf n ρ ds).eval ⟨some t, op, ty, pos, af, none⟩ := rfl
 rw [e, actOf_eval, h w s]
 show K _ w
 rw [actOf_put]
 exact hK _ _ (k w s)
theorem WLF_take {j : Nat} {b b' : Bool} {e : Tmp} (hde : (ops[j]?).bind (·.dst) = some e) (hv : evE n ρ (.tmp e) = .bool b') (he : (b' == b) = true) (k : WLF P n ops (⟨d, op, ty, pos, af, none⟩ :: rest) Q ρ ds Γ) :
 WLF P n ops (⟨d, op, ty, pos, af, some (j, b)⟩ :: rest) Q ρ ds Γ := fun w s => by
 have hg := grd_of hde hv
 have := k w s
 unfold wpListIn at *
 rw [if_pos (by simp [Region.wanted])] at this
 rw [if_pos (by simp only [Region.wanted, yielded_actOf, hg]; cases b <;> cases b' <;> first | exact absurd he (by decide) | decide)]
 exact this
theorem run_yieldCall {L : Nat} {g : Operand} {xs : Array Operand} {ats : Array TypeId} {args : Array Value} {gd : Option (Nat × Bool)} (hg : evE n ρ g = .func (.yield L) #[] #[]) (hx : xs.map (evE n ρ) = args) (w : World) :
 (execOp (evE n ρ) ⟨d, .call ⟨.value g, xs, ats⟩, ty, pos, af, gd⟩).run P w = (Instr.yield L args).run P w := by
 simp [execOp, resolve, hg, Deferred.ofValue, invoke, hx]
theorem WLF_yield {L : Nat} {g : Operand} {xs : List Operand} {ats : Array TypeId} {args : List Value} {b : Bool} (hg : evE n ρ g = .func (.yield L) #[] #[]) (hx : xs.map (evE n ρ) = args)
 (hy : ∀ w, Sat Γ w → YieldAt Fence.wide 0 P L args.toArray w fun e w' => e = .returned (.bool b) ∧ Sat Γ' w') (k : WLF P n ops rest Q (upd ρ t (.bool b)) ds Γ') :
 WLF P n ops (⟨some t, .call ⟨.value g, xs.toArray, ats⟩, ty, pos, af, none⟩ :: rest) Q ρ ds Γ := fun w s => wpListIn_plain rfl fun K hK => by
 obtain ⟨fn, tmps, assign, body, hr, hR⟩ := hy w s
 refine ⟨fun _ _ => trivial, ?_⟩
 have e : Oper.semAt Fence.wide.round (actOf n ρ ds).eval ⟨some t, .call ⟨.value g, xs.toArray, ats⟩, ty, pos, af, none⟩ = execOp (actOf n ρ ds).eval ⟨some t, .call ⟨.value g, xs.toArray, ats⟩, ty, pos, af, none⟩ := rfl
 rw [e, actOf_eval, run_yieldCall hg (args_map hx), hr]
 refine ⟨fun h0 => absurd h0 (by simp [Fence.wide]), hR.mono ?_⟩
 rintro e w' ⟨rfl, s'⟩
 show K _ w'
 rw [actOf_put]
 exact hK _ _ (k w' s')
end
attribute [irreducible] WLF WCR
end Go.Px

namespace Go.Proofs
open Go.Px Tryz
section
variable {pb tb cap K : Nat} {L : List Tk} {g : NT → M PT} {gx : GX} {rx : RX}
attribute [local semireducible] WL WC At WD
theorem runOf_le (p : UInt8 → Bool) (l : Bs) (i : Nat) (h : i ≤ l.length) : i + runOf p l i ≤ l.length := by
 unfold runOf
 have h1 : ((l.drop i).takeWhile p).length ≤ (l.drop i).length := (List.takeWhile_sublist _).length_le
 rw [List.length_drop] at h1
 omega
theorem runOf_pos {p : UInt8 → Bool} {l : Bs} {i : Nat} {c : UInt8} (hc : l[i]? = some c) (hp : p c = true) : 1 ≤ runOf p l i := by
 rw [runOf_step hc hp]; omega
theorem quoted_en {l : Bs} {at_ : Nat} {q : UInt8} : ∀ {k i : Nat} {out : Bs} {t : Tk}, quotedK l at_ q k i out = some t → t.kind = 0 ∨ (t.kind = 4 ∧ ∃ e : Nat, t.en = e ∧ i < e ∧ e ≤ l.length)
 | 0, i, out, t, h => by cases h
 | k + 1, i, out, t, h => by
  rw [quotedK] at h
  cases hc : l[i]? with
  | none => rw [hc] at h; cases h; exact .inl rfl
  | some c =>
   have hil := (List.getElem?_eq_some_iff.1 hc).1
   rw [hc] at h
   dsimp only at h
   cases g1 : (c == q) <;> rw [g1] at h
   case true => cases h; exact .inr ⟨rfl, i + 1, by simp, by omega, by omega⟩
   cases g2 : (c == 10 || c == 13) <;> rw [g2] at h
   case true => cases h; exact .inl rfl
   simp only [cond_false] at h
   cases hr : rune1B l i with
   | none => rw [hr] at h; cases h; exact .inl rfl
   | some p =>
    rw [hr] at h
    have hb := rune1B_ok hr
    rcases quoted_en h with h | ⟨h1, e, h2, h3, h4⟩
    · exact .inl h
    exact .inr ⟨h1, e, h2, by omega, h4⟩
theorem piece_en {l : Bs} {at_ : Nat} {ends goes : Int} : ∀ {k i : Nat} {out : Bs} {t : Tk}, pieceK l at_ ends goes k i out = some t → t.kind = 0 ∨ ((t.kind = ends ∨ t.kind = goes) ∧ ∃ e : Nat, t.en = e ∧ i < e ∧ e ≤ l.length)
 | 0, i, out, t, h => by cases h
 | k + 1, i, out, t, h => by
  rw [pieceK] at h
  cases hc : l[i]? with
  | none => rw [hc] at h; cases h; exact .inl rfl
  | some c =>
   have hil := (List.getElem?_eq_some_iff.1 hc).1
   rw [hc] at h
   dsimp only at h
   cases g1 : (c == 96) <;> rw [g1] at h
   case true => cases h; exact .inr ⟨.inl rfl, i + 1, by simp, by omega, by omega⟩
   cases g2 : hasB l i [36, 123] <;> rw [g2] at h
   case true =>
    have hl2 := hasB_len g2 (by decide)
    simp only [List.length_cons, List.length_nil] at hl2
    cases h; exact .inr ⟨.inr rfl, i + 2, by simp, by omega, by omega⟩
   simp only [cond_false] at h
   cases hr : rune1B l i with
   | none => rw [hr] at h; cases h; exact .inl rfl
   | some p =>
    rw [hr] at h
    have hb := rune1B_ok hr
    rcases piece_en h with h | ⟨h1, e, h2, h3, h4⟩
    · exact .inl h
    exact .inr ⟨h1, e, h2, by omega, h4⟩
theorem sign_en (l : Bs) (i : Nat) (h : i < l.length) : ∀ ss : List (Nat × Bs), (∀ x ∈ ss, 1 ≤ x.1) → (signL l i ss).kind = 0 ∨ ((signL l i ss).kind = 9 ∧ ∃ e : Nat, (signL l i ss).en = e ∧ i < e ∧ e ≤ l.length)
 | [], _ => .inl rfl
 | (n, s) :: rest, hs => by
  have hn := hs (n, s) (by simp)
  rw [signL]
  cases g1 : decide (l.length - i < n) with
  | true => exact sign_en l i h rest fun x hx => hs x (by simp [hx])
  | false =>
   simp only [decide_eq_false_iff_not] at g1
   dsimp only [cond_false]
   cases g2 : ((cutT l 9 i (i + n)).text.any blankB || !Lib.contains s ([32] ++ (cutT l 9 i (i + n)).text ++ [32])) with
   | true => exact sign_en l i h rest fun x hx => hs x (by simp [hx])
   | false => exact .inr ⟨rfl, i + n, rfl, by omega, by omega⟩
theorem opS_len (t : Bs) (op : List Bool) : (opS t op).length ≤ op.length + 1 := by
 unfold opS
 cases t == [123] <;> cases t == [125] <;> simp <;> omega
theorem token_ok {l : Bs} {K j : Nat} {op op' : List Bool} {t : Tk} (h : tokenK l K j op = some (t, op')) : t.kind = 0 ∨ (t.kind ≠ 10 ∧ ∃ e : Nat, t.en = e ∧ j < e ∧ e ≤ l.length ∧ op'.length ≤ op.length + 1) := by
 rw [tokenK] at h
 cases hc : l[j]? with
 | none => rw [hc] at h; cases h
 | some c =>
  have hjl := (List.getElem?_eq_some_iff.1 hc).1
  rw [hc] at h
  dsimp only at h
  cases g1 : letterB c <;> rw [g1] at h
  case true =>
   simp only [cond_true] at h
   cases h
   have hr := runOf_le (fun c => letterB c || digitB c) l j (by omega)
   have hp : 1 ≤ runOf (fun c => letterB c || digitB c) l j := runOf_pos hc (by simp [g1])
   right
   unfold wordT
   cases hres : reservedB (cutT l 1 j (j + runOf (fun c => letterB c || digitB c) l j)).text <;> simp only [hres, cond_true, cond_false] <;> exact ⟨by simp [cutT], _, rfl, by omega, hr, by omega⟩
  cases g2 : digitB c <;> rw [g2] at h
  case true =>
   simp only [cond_true, cond_false] at h
   cases h
   have hr := runOf_le digitB l j (by omega)
   have hp : 1 ≤ runOf digitB l j := runOf_pos hc g2
   unfold numberT
   cases h1 : decide (numV ((l.drop j).take (j + runOf digitB l j - j)) > 9007199254740991) <;> simp only [h1, cond_true, cond_false]
   case true => exact .inl rfl
   cases h2 : ((l[j]? == some 48) && decide (j + runOf digitB l j > j + 1)) <;> simp only [h2, cond_true, cond_false]
   case true => exact .inl rfl
   cases h3 : letterAt l (j + runOf digitB l j) <;> simp only [h3, cond_true, cond_false]
   case true => exact .inl rfl
   exact .inr ⟨by simp [cutT], _, rfl, by omega, hr, by omega⟩
  cases g3 : (c == 34 || c == 39) <;> rw [g3] at h
  case true =>
   simp only [cond_true, cond_false] at h
   cases hq : quotedK l j c K (j + 1) [] with
   | none => rw [hq] at h; cases h
   | some t0 =>
    rw [hq] at h; cases h
    rcases quoted_en hq with h | ⟨h1, e, h2, h3, h4⟩
    · exact .inl h
    exact .inr ⟨by omega, e, h2, by omega, h4, by omega⟩
  cases g4 : (c == 96) <;> rw [g4] at h
  case true =>
   simp only [cond_true, cond_false] at h
   cases hq : pieceK l j 5 6 K (j + 1) [] with
   | none => rw [hq] at h; cases h
   | some t0 =>
    rw [hq] at h; cases h
    rcases piece_en hq with h | ⟨h1, e, h2, h3, h4⟩
    · exact .inl h
    refine .inr ⟨by omega, e, h2, by omega, h4, ?_⟩
    first | (cases t.kind == 6 <;> simp) | (cases t0.kind == 6 <;> simp)
  cases g5 : (c == 125 && op.head?.getD false) <;> rw [g5] at h
  case true =>
   simp only [cond_true, cond_false] at h
   cases hq : pieceK l j 8 7 K (j + 1) [] with
   | none => rw [hq] at h; cases h
   | some t0 =>
    rw [hq] at h; cases h
    rcases piece_en hq with h | ⟨h1, e, h2, h3, h4⟩
    · exact .inl h
    refine .inr ⟨by omega, e, h2, by omega, h4, ?_⟩
    first | (cases t.kind == 8 <;> simp <;> omega) | (cases t0.kind == 8 <;> simp <;> omega)
  simp only [cond_false] at h
  cases h
  rcases sign_en l j hjl signs3 (by decide) with h | ⟨h1, e, h2, h3, h4⟩
  · exact .inl h
  exact .inr ⟨by omega, e, h2, h3, h4, opS_len _ _⟩
theorem next_ok9 {l : Bs} {K i j : Nat} {op op' : List Bool} {t : Tk} (h : nextK l K i op = some (.tok t j op')) (hi : i ≤ l.length) : i ≤ j ∧ j ≤ l.length ∧ (t.kind ≠ 10 → i < j ∧ op'.length ≤ op.length + 1) ∧ (t.kind = 10 → op' = op) := by
 unfold nextK at h
 cases hb : blanksK l K i with
 | none => rw [hb] at h; cases h
 | some p =>
  obtain ⟨b, k⟩ := p
  have hle := blanksK_le hb hi
  rw [hb] at h
  cases b with
  | false => cases h
  | true =>
   dsimp only at h
   cases g : decide (k = l.length) <;> rw [g] at h
   case true => cases h; exact ⟨hle.1, hle.2, fun h => absurd rfl h, fun _ => rfl⟩
   simp only [cond_false] at h
   cases ht : tokenK l K k op with
   | none => rw [ht] at h; cases h
   | some q =>
    obtain ⟨t0, op0⟩ := q
    rw [ht] at h
    dsimp only at h
    cases g0 : (t0.kind == 0) <;> rw [g0] at h
    case true => cases h
    cases h
    have g0 : t.kind ≠ 0 := by simpa using g0
    rcases token_ok ht with h | ⟨h1, e, h2, h3, h4, h5⟩
    · exact absurd h g0
    rw [h2, Int.toNat_natCast]
    exact ⟨by omega, h4, fun _ => ⟨by omega, h5⟩, fun h => absurd h h1⟩
def NextR (gx : GX) (sb bb cap : Nat) (l : Bs) (sp : List Value) (F : List HP) (r : Nx) (e : Ending) (w' : World) : Prop := match r with
 | .bad a => ∃ (b9 : Int) (so' : SV) (op' : List Bool), e = .returned (.tuple #[tkVal ⟨0, [], a, 0⟩, .bool false]) ∧ Sat ([Cl sb 134 [Sl bb l.length cap, Iv b9, slV so'], Cl bb 5 (l.map u8v ++ sp), OB so' op', (GMx gx)] ++ F) w'
 | .tok t j op' => ∃ so' : SV, e = .returned (.tuple #[tkVal t, .bool true]) ∧ Sat ([Cl sb 134 [Sl bb l.length cap, Iv j, slV so'], Cl bb 5 (l.map u8v ++ sp), OB so' op', (GMx gx)] ++ F) w'
theorem c_nextS {l : Bs} {i K : Nat} {sb bb cap : Nat} {sp : List Value} {so : SV} {op : List Bool} {r : Nx} (hcap : l.length ≤ cap) (hl : l.length ≤ 1048576) (hi : i ≤ l.length) (hop : op.length ≤ 1099511627776) (hK : nextK l K i op = some r) :
 ∀ F w, Sat ([Cl sb 134 [Sl bb l.length cap, Iv i, slV so], Cl bb 5 (l.map u8v ++ sp), OB so op, (GMx gx)] ++ F) w → Calls prog 72 [ptr sb].toArray w (NextR gx sb bb cap l sp F r) := fun F w q => by
 unfold nextK at hK
 cases hb : blanksK l K i with
 | none => rw [hb] at hK; cases hK
 | some p =>
  obtain ⟨b, j⟩ := p
  have hle := blanksK_le hb hi
  rw [hb] at hK
  cases b with
  | false =>
   cases hK
   refine (c_next1 hcap hl hi hop hb F w q).mono ?_
   rintro e w' ⟨rfl, s⟩
   exact ⟨_, so, op, rfl, s⟩
  | true =>
   dsimp only at hK
   cases g : decide (j = l.length) <;> rw [g] at hK
   case true =>
    cases hK
    refine (c_next2 hcap hl hi hop hb (by simpa using g) F w q).mono ?_
    rintro e w' ⟨rfl, s⟩
    exact ⟨so, rfl, s⟩
   simp only [cond_false] at hK
   have g : j ≠ l.length := by simpa using g
   cases ht : tokenK l K j op with
   | none => rw [ht] at hK; cases hK
   | some q0 =>
    obtain ⟨t, op'⟩ := q0
    rw [ht] at hK
    dsimp only at hK
    refine (c_next3 hcap hl hi hop hb (List.getElem?_eq_getElem (by omega : j < l.length)) ht F w q).mono ?_
    rintro e w' ⟨so', rfl, s⟩
    cases g0 : (t.kind == 0) with
    | true =>
     rw [g0] at hK; cases hK
     simp only [resT, resA, g0, cond_true] at s ⊢
     exact ⟨_, so', op', rfl, s⟩
    | false =>
     rw [g0] at hK; cases hK
     have g1 : t.kind ≠ 0 := by simpa using g0
     rcases token_ok ht with h | ⟨h1, e, h2, h3, h4, h5⟩
     · exact absurd h g1
     simp only [resT, resA, g0, cond_false] at s ⊢
     refine ⟨so', rfl, ?_⟩
     rw [h2, Int.toNat_natCast]
     rw [h2] at s
     exact s
def YS (L : Nat) (J : List Tk → HP) (JX : Int → Int → HP) : Prop :=
 (∀ ts t F w, ts.length ≤ 100000 → Sat (J ts :: F) w → YieldAt Fence.wide 0 prog L [tkVal t, Iv 0].toArray w fun e w' => e = .returned (.bool true) ∧ Sat (J (ts ++ [t]) :: F) w') ∧
 (∀ ts a er F w, er ≠ 0 → Sat (J ts :: F) w → YieldAt Fence.wide 0 prog L [tkVal ⟨0, [], a, 0⟩, Iv er].toArray w fun e w' => e = .returned (.bool false) ∧ Sat (JX a er :: F) w')
def endJ (J : List Tk → HP) (JX : Int → Int → HP) : List Tk ⊕ (Int × Int) → HP
 | .inl ts => J ts
 | .inr (a, e) => JX a e
theorem WL_callNext {n : Nat} {Q : Post} {ρ : Env} {ds : List Deferred} {Γ F : List HP} {ops : Array Oper} {rest : List Oper} {t : Tmp} {ty : TypeId} {pos : String} {af : Array Edge} {xs : List Operand} {ats : Array TypeId} {l : Bs} {i K : Nat} {sb bb cap : Nat} {sp : List Value} {so : SV} {op : List Bool} {r : Nx}
 (hx : xs.map (evE n ρ) = [ptr sb]) (hcap : l.length ≤ cap) (hl : l.length ≤ 1048576) (hi : i ≤ l.length) (hop : op.length ≤ 1099511627776) (hK : nextK l K i op = some r)
 (hs : Sels Γ [Cl sb 134 [Sl bb l.length cap, Iv i, slV so], Cl bb 5 (l.map u8v ++ sp), OB so op, (GMx gx)] F)
 (h1 : ∀ a b9 so' op', r = .bad a → WL prog n ops rest Q (upd ρ t (.tuple #[tkVal ⟨0, [], a, 0⟩, .bool false])) ds ([Cl sb 134 [Sl bb l.length cap, Iv b9, slV so'], Cl bb 5 (l.map u8v ++ sp), OB so' op', (GMx gx)] ++ F))
 (h2 : ∀ t9 j op' so', r = .tok t9 j op' → WL prog n ops rest Q (upd ρ t (.tuple #[tkVal t9, .bool true])) ds ([Cl sb 134 [Sl bb l.length cap, Iv j, slV so'], Cl bb 5 (l.map u8v ++ sp), OB so' op', (GMx gx)] ++ F)) :
 WL prog n ops (⟨some t, .call ⟨.value (.func 72), xs.toArray, ats⟩, ty, pos, af, none⟩ :: rest) Q ρ ds Γ := by
 refine WL_call (args := [ptr sb].toArray) call72 (args_map hx) (fun w s => c_nextS hcap hl hi hop hK F w (s.mono hs.ent)) ?_ ?_ ?_
 · intro v w h
   cases r with
   | bad a => obtain ⟨b9, so', op', h, s⟩ := h; cases h; exact h1 a b9 so' op' rfl w s
   | tok t9 j op' => obtain ⟨so', h, s⟩ := h; cases h; exact h2 t9 j op' so' rfl w s
 · intro c w h
   cases r with
   | bad a => obtain ⟨b9, so', op', h, s⟩ := h; cases h
   | tok t9 j op' => obtain ⟨so', h, s⟩ := h; cases h
 intro w h
 cases r with
 | bad a => obtain ⟨b9, so', op', h, s⟩ := h; cases h
 | tok t9 j op' => obtain ⟨so', h, s⟩ := h; cases h
end
end Go.Proofs

namespace Go.Proofs
open Go.Px Tryz
section
variable {pb tb cap K : Nat} {L : List Tk} {g : NT → M PT} {gx : GX} {rx : RX}
theorem c_scan1 {l : Bs} {K L : Nat} {cb bb cap : Nat} {sp : List Value} {J : List Tk → HP} {JX : Int → Int → HP} {r : List Tk ⊕ (Int × Int)} (hcap : l.length ≤ cap) (hl : l.length ≤ 1048576) (hY : YS L J JX) (hK : tokensB l K = some r) : ∀ F w, Sat ([Cl cb 22 [Sl bb l.length cap], Cl bb 5 (l.map u8v ++ sp), (GMx gx), J []] ++ F) w → Calls prog 70 [.func (.yield L) #[] #[], ptr cb].toArray w fun e w' => e = .returned (.tuple #[]) ∧ Sat ([endJ J JX r, (GMx gx)] ++ F) w' := by
 intro F
 refine calls_of_WC (fn := f70) func70 rfl rfl (WC_scope0 0 rfl (Sz (Lo cb 0 (Sl bb l.length cap) isAgg22 Z0 rfl (WL_rd (rd_lenS (a := some ⟨bb, 0, none⟩) (k := l.length) runUnderlying22 rfl) (Bo (Iv l.length) (Iv 65536) (.bool (decide (((l.length : Nat) : Int) > 65536))) eqg_int (binOp_gtr _ _ _ _) (Nt ?_))))))
 cases hb1 : (decide (((l.length : Nat) : Int) > 65536))
 rotate_left 1
 · have hbig : l.length > 65536 := by have h9 := hb1; simp only [decide_eq_true_eq] at h9; omega
   refine WC_true rfl (WC_seq (WC_regionF (WLF_rd (Rm (.func (.yield L) #[] #[]) rfl) (by intro c h; cases h) (WLF_rd (rd_build (vs := []) (v := .agg #[Iv 0, Tx [], Iv 0, Iv 0]) rfl (bd47_z )) (by intro c h; cases h) (WLF_yield (args := [.agg #[Iv 0, Tx [], Iv 0, Iv 0], Iv 2]) (b := false) rfl rfl (fun w q => hY.2 [] 0 2 _ w (by decide) (q.mono (Sel.ent Z3))) (WLF_nil (At_then (WC_ret (At_thenR (At_scopeR ?_))))))))))
   rw [tokensB, decide_eq_true hbig, cond_true] at hK
   cases hK
   exact At_ret0 results70 (fun w q => ⟨rfl, q.mono (En Z0 (En Z2 D2))⟩)
 have hbig : ¬ l.length > 65536 := by have h9 := hb1; simp only [decide_eq_false_iff_not] at h9; omega
 rw [tokensB, decide_eq_false hbig, cond_false] at hK
 refine Fx (Lo cb 0 (Sl bb l.length cap) isAgg22 Z0 rfl (WL_callX (Δ0 := []) (Δ := fun b2 => [Cl b2 134 [Sl bb l.length cap, Iv 0, .slice none 0 0], OB (none, 0, 0) []]) (v := fun b2 => ptr b2) call71 rfl (c_begin) (.nil) ?_))
 rintro b2
 refine Av (ptr b2) (Nt (WC_seq (WC_label (At_then (Sr (Av (Iv 0) (Nt (WC_block (WC_loopF (α := Nat × Nat × SV × List Bool × Nat × List Tk) (fun x => tokensK l K x.2.2.2.2.1 x.1 x.2.1 x.2.2.2.1 x.2.2.2.2.2 = some r ∧ x.2.1 ≤ l.length ∧ x.2.2.2.2.2.length = x.1 ∧ x.1 ≤ 8192 ∧ x.2.2.2.1.length ≤ x.2.1) (fun x => [(0, .func (.yield L) #[] #[]), (1, ptr cb), (3, ptr b2), (4, Iv x.1)]) (fun x => Cl b2 134 [Sl bb l.length cap, Iv x.2.1, slV x.2.2.1] :: Cl bb 5 (l.map u8v ++ sp) :: OB x.2.2.1 x.2.2.2.1 :: (GMx gx) :: J x.2.2.2.2.2 :: Cl cb 22 [Sl bb l.length cap] :: F) (fun x => x.2.2.2.2.1) (0, 0, (none, 0, 0), [], K, []) (show tokensK l K K 0 0 [] [] = some r ∧ 0 ≤ l.length ∧ [].length = 0 ∧ 0 ≤ 8192 ∧ [].length ≤ 0 from ⟨hK, by omega, rfl, by omega, by simp⟩) ⟨rfl, rfl, rfl, rfl, trivial⟩ (En Z0 (En Z2 (E4 Z0 Z1 Z1 Z0))) ?_)))))))))
 rintro ⟨n, i, so, op, k, ts⟩ σ hpre
 replace hpre : tokensK l K k n i op ts = some r ∧ i ≤ l.length ∧ ts.length = n ∧ n ≤ 8192 ∧ op.length ≤ i := hpre
 obtain ⟨hq, hil, hp3, hp4, hp5⟩ := id hpre
 rcases k with _ | k
 · cases hq
 rw [tokensK] at hq
 obtain ⟨x9, hnx⟩ : ∃ x, nextK l K i op = some x := by cases h9 : nextK l K i op with | none => rw [h9] at hq; cases hq | some x => exact ⟨x, rfl⟩
 rw [hnx] at hq
 show WC prog _ _ _ (upds σ [(0, .func (.yield L) #[] #[]), (1, ptr cb), (3, ptr b2), (4, Iv n)]) _ (Cl b2 134 [Sl bb l.length cap, Iv i, slV so] :: Cl bb 5 (l.map u8v ++ sp) :: OB so op :: (GMx gx) :: J ts :: Cl cb 22 [Sl bb l.length cap] :: F)
 refine WC_seq (WC_block (Sr (Mv (ptr b2) ?_)))
 refine WL_callNext (so := so) (op := op) rfl hcap hl hil (by omega) hnx (K4 Z0 Z0 Z0 Z0) ?_ ?_
 · rintro a b9 so' op' rfl
   dsimp only at hq
   refine Mv (.tuple #[.agg #[Iv 0, Tx [], Iv a, Iv 0], .bool false]) (Xt (.agg #[Iv 0, Tx [], Iv a, Iv 0]) (Xt (.bool false) (WL_ef (ef_alloc (l := [Iv 0, Tx [], Iv 0, Iv 0]) zeroValue47 rfl) fun b3 => Sa b3 0 [Iv 0, Tx [], Iv a, Iv 0] sizeOf47 Z0 (.put (.put (.put (.put .done)))) (Av (.bool false) (Nt (WC_seq (WC_block (Sr (Mv (.bool false) (WL_rd (rd_not (b := false) rfl) (Av (.bool true) (Nt (WC_true rfl (WC_seq (WC_regionF (WLF_rd (Rm (.func (.yield L) #[] #[]) rfl) (by intro c h; cases h) (WLF_rd (Rf b3 0 fa47_2 rfl) (by intro c h; cases h) (WLF_rd (Rl b3 2 (Iv a) isAgg3 rfl Z0 rfl) (by intro c h; cases h) (WLF_rd (rd_build (vs := [(2, Iv a)]) (v := .agg #[Iv 0, Tx [], Iv a, Iv 0]) rfl (bd47_2 _ rfl )) (by intro c h; cases h) (WLF_yield (args := [.agg #[Iv 0, Tx [], Iv a, Iv 0], Iv 3]) (b := false) rfl rfl (fun w q => hY.2 ts a 3 _ w (by decide) (q.mono (Sel.ent (.succ Z4)))) (WLF_nil (At_then (WC_exit (At_blockY rfl (At_thenX (At_blockY rfl (At_thenX (At_loopX (At_blockX (At_scopeN ?_))))))))))))))))))))))))))))))
   cases hq
   exact At_end0 results70 (fun w q => ⟨rfl, q.mono (En Z0 (En Z4 (.dropHead D4)))⟩)
 rintro t j op' so' rfl
 dsimp only at hq
 obtain ⟨hn1, hn2, hn3, hn4⟩ := next_ok9 hnx hil
 refine Mv (.tuple #[.agg #[Iv t.kind, Tx t.text, Iv t.pos, Iv t.en], .bool true]) (Xt (.agg #[Iv t.kind, Tx t.text, Iv t.pos, Iv t.en]) (Xt (.bool true) (WL_ef (ef_alloc (l := [Iv 0, Tx [], Iv 0, Iv 0]) zeroValue47 rfl) fun b4 => Sa b4 0 [Iv t.kind, Tx t.text, Iv t.pos, Iv t.en] sizeOf47 Z0 (.put (.put (.put (.put .done)))) (Av (.bool true) (Nt (WC_seq (WC_block (Sr (Mv (.bool true) (WL_rd (rd_not (b := true) rfl) (Av (.bool false) (Nt (WC_false rfl (Sr (Mv (Iv n) (Bo (Iv n) (Iv 8192) (.bool (((n : Nat) : Int) == 8192)) eqg_int (binOp_eql _ _ _ _) (Mv (.bool (((n : Nat) : Int) == 8192)) ?_)))))))))))))))))
 cases hb5 : (((n : Nat) : Int) == 8192)
 · have h8 : (n == 8192) = false := by have h9 := hb5; rw [Bool.eq_iff_iff] at h9 ⊢; simp only [beq_iff_eq] at h9 ⊢; rw [← h9]; omega
   simp only [h8, Bool.true_and, Bool.false_and, cond_false] at hq
   refine Pa false 33 (Pa false 33 (Pa false 33 (Pk false (Av (.bool false) (Nt (WC_false rfl (WC_seq (WC_regionF (WLF_rd (Rm (.func (.yield L) #[] #[]) rfl) (by intro c h; cases h) (WLF_rd (rd_loadN (b := b4) (o := 0) (vs := [Iv t.kind, Tx t.text, Iv t.pos, Iv t.en]) isAgg47 sizeOf47 rfl Z0 rfl rfl) (by intro c h; cases h) (WLF_yield (args := [.agg #[Iv t.kind, Tx t.text, Iv t.pos, Iv t.en], Iv 0]) (b := true) rfl rfl (fun w q => hY.1 ts t _ w (by omega) (q.mono (Sel.ent (.succ Z4)))) (WLF_rd (rd_not (b := true) rfl) (by intro c h; cases h) (WLF_rd (Rm (.bool false) rfl) (by intro c h; cases h) (WLF_take (b' := false) (e := 48) rfl rfl rfl (WLF_rd (Rf b4 0 fa47_0 rfl) (by intro c h; cases h) (WLF_take (b' := false) (e := 48) rfl rfl rfl (WLF_rd (Rl b4 0 (Iv t.kind) isAgg3 rfl Z1 rfl) (by intro c h; cases h) (WLF_take (b' := false) (e := 48) rfl rfl rfl (WLF_rd (Rb (Iv t.kind) (Iv 10) (.bool (t.kind == 10)) rfl rfl eqg_int (binOp_eql _ _ _ _)) (by intro c h; cases h) (WLF_rd (rd_pick (b := false) rfl) (by intro c h; cases h) (WLF_rd (Ra (.bool (t.kind == 10)) rfl) (by intro c h; cases h) (WLF_nil (At_then ?_)))))))))))))))))))))))
   cases hb6 : (t.kind == 10)
   rotate_left 1
   · have hk10 : (t.kind == 10) = true := hb6
     refine WC_true rfl (WC_exit (At_blockY rfl (At_thenX (At_blockY rfl (At_thenX (At_loopX (At_blockX (At_scopeN ?_))))))))
     simp only [hk10, cond_true] at hq
     cases hq
     exact At_end0 results70 (fun w q => ⟨rfl, q.mono (En Z0 (En Z4 (.dropHead D4)))⟩)
   have hk10 : (t.kind == 10) = false := hb6
   refine WC_false rfl (WC_skip (At_blockN (At_then (WC_exit (At_blockX (At_then (WC_region (Mv (Iv n) (Bo (Iv n) (Iv 1) (Iv (((n : Nat) : Int) + 1)) eqg_int (bin_add (by omega) (by omega)) (Av (Iv (((n : Nat) : Int) + 1)) (WL_nil ?_)))))))))))
   have hk10' : t.kind ≠ 10 := by simpa using hk10
   simp only [hk10, cond_false] at hq
   obtain ⟨hn5, hn6⟩ := hn3 hk10'
   have h8' : n ≠ 8192 := by simpa using h8
   exact At_againF ((n + 1), j, so', op', k, (ts ++ [t])) (show tokensK l K k (n + 1) j op' (ts ++ [t]) = some r ∧ j ≤ l.length ∧ (ts ++ [t]).length = (n + 1) ∧ (n + 1) ≤ 8192 ∧ op'.length ≤ j from ⟨hq, by omega, by rw [List.length_append, hp3]; rfl, by omega, by omega⟩) ⟨rfl, rfl, rfl, congrArg (Value.int .i64) (show ((n : Nat) : Int) + 1 = ((n + 1 : Nat) : Int) by omega), trivial⟩ (En Z2 (En Z2 (En Z2 (En Z2 (En Z0 (En Z1 D1)))))) (Nat.lt_succ_self _)
 have h8 : (n == 8192) = true := by have h9 := hb5; rw [Bool.eq_iff_iff] at h9 ⊢; simp only [beq_iff_eq] at h9 ⊢; rw [← h9]; omega
 simp only [h8, Bool.true_and, Bool.false_and, cond_false] at hq
 refine Ta true 33 (Fa b4 0 fa47_0 (Ta true 33 (Lo b4 0 (Iv t.kind) isAgg3 Z0 rfl (Ta true 33 (Bo (Iv t.kind) (Iv 10) (.bool (t.kind != 10)) eqg_int (binOp_neq _ _ _ _) (Pk true (Av (.bool (t.kind != 10)) (Nt ?_))))))))
 cases hb7 : (t.kind != 10)
 rotate_left 1
 · simp only [hb7, cond_true, cond_false] at hq
   have hk10 : (t.kind == 10) = false := by have h9 := hb7; unfold bne at h9; revert h9; cases t.kind == 10 <;> simp
   refine WC_true rfl (WC_seq (WC_regionF (WLF_rd (Rm (.func (.yield L) #[] #[]) rfl) (by intro c h; cases h) (WLF_rd (Rf b4 0 fa47_2 rfl) (by intro c h; cases h) (WLF_rd (Rl b4 2 (Iv t.pos) isAgg3 rfl Z0 rfl) (by intro c h; cases h) (WLF_rd (rd_build (vs := [(2, Iv t.pos)]) (v := .agg #[Iv 0, Tx [], Iv t.pos, Iv 0]) rfl (bd47_2 _ rfl )) (by intro c h; cases h) (WLF_yield (args := [.agg #[Iv 0, Tx [], Iv t.pos, Iv 0], Iv 4]) (b := false) rfl rfl (fun w q => hY.2 ts t.pos 4 _ w (by decide) (q.mono (Sel.ent (.succ Z4)))) (WLF_nil (At_then (WC_exit (At_blockY rfl (At_thenX (At_blockY rfl (At_thenX (At_loopX (At_blockX (At_scopeN ?_)))))))))))))))))
   cases hq
   exact At_end0 results70 (fun w q => ⟨rfl, q.mono (En Z0 (En Z4 (.dropHead D4)))⟩)
 simp only [hb7, cond_true, cond_false] at hq
 have hk10 : (t.kind == 10) = true := by have h9 := hb7; unfold bne at h9; revert h9; cases t.kind == 10 <;> simp
 refine WC_false rfl (WC_seq (WC_regionF (WLF_rd (Rm (.func (.yield L) #[] #[]) rfl) (by intro c h; cases h) (WLF_rd (rd_loadN (b := b4) (o := 0) (vs := [Iv t.kind, Tx t.text, Iv t.pos, Iv t.en]) isAgg47 sizeOf47 rfl Z0 rfl rfl) (by intro c h; cases h) (WLF_yield (args := [.agg #[Iv t.kind, Tx t.text, Iv t.pos, Iv t.en], Iv 0]) (b := true) rfl rfl (fun w q => hY.1 ts t _ w (by omega) (q.mono (Sel.ent (.succ Z4)))) (WLF_rd (rd_not (b := true) rfl) (by intro c h; cases h) (WLF_rd (Rm (.bool false) rfl) (by intro c h; cases h) (WLF_take (b' := false) (e := 48) rfl rfl rfl (WLF_rd (Rf b4 0 fa47_0 rfl) (by intro c h; cases h) (WLF_take (b' := false) (e := 48) rfl rfl rfl (WLF_rd (Rl b4 0 (Iv t.kind) isAgg3 rfl Z1 rfl) (by intro c h; cases h) (WLF_take (b' := false) (e := 48) rfl rfl rfl (WLF_rd (Rb (Iv t.kind) (Iv 10) (.bool (t.kind == 10)) rfl rfl eqg_int (binOp_eql _ _ _ _)) (by intro c h; cases h) (WLF_rd (rd_pick (b := false) rfl) (by intro c h; cases h) (WLF_rd (Ra (.bool (t.kind == 10)) rfl) (by intro c h; cases h) (WLF_nil (At_then ?_)))))))))))))))))
 cases hb8 : (t.kind == 10)
 · have hk10 : (t.kind == 10) = false := hb8
   refine WC_false rfl (WC_skip (At_blockN (At_then (WC_exit (At_blockX (At_then (WC_region (Mv (Iv n) (Bo (Iv n) (Iv 1) (Iv (((n : Nat) : Int) + 1)) eqg_int (bin_add (by omega) (by omega)) (Av (Iv (((n : Nat) : Int) + 1)) (WL_nil ?_)))))))))))
   exfalso; unfold bne at hb7; rw [hb8] at hb7; cases hb7
 have hk10 : (t.kind == 10) = true := hb8
 refine WC_true rfl (WC_exit (At_blockY rfl (At_thenX (At_blockY rfl (At_thenX (At_loopX (At_blockX (At_scopeN ?_))))))))
 simp only [hk10, cond_true] at hq
 cases hq
 exact At_end0 results70 (fun w q => ⟨rfl, q.mono (En Z0 (En Z4 (.dropHead D4)))⟩)
end
end Go.Proofs

namespace Go.Proofs
open Go.Px Tryz
section
variable {pb tb cap K : Nat} {L : List Tk} {g : NT → M PT} {gx : GX} {rx : RX}
theorem c_blanksNil {sb : Nat} : ∀ F w, Sat ([Cl sb 134 [.slice none 0 0, Iv 0, .slice none 0 0]] ++ F) w → Calls prog 106 [ptr sb].toArray w fun e w' => e = .returned (.bool true) ∧ Sat ([Cl sb 134 [.slice none 0 0, Iv 0, .slice none 0 0]] ++ F) w' := by
 intro F
 refine calls_of_WC (fn := f106) func106 rfl rfl (Sr (Av (.bool false) (Nt (WC_scope0 0 rfl (WC_seq (WC_label (At_then (WC_seq (WC_block (WC_loopF (α := Unit) (fun x => True) (fun x => [(0, ptr sb)]) (fun x => Cl sb 134 [.slice none 0 0, Iv 0, .slice none 0 0] :: F) (fun x => 0) () (show True from trivial) ⟨rfl, trivial⟩ (E1 Z0) ?_))))))))))
 rintro u σ hpre
 replace hpre : True := hpre
 show WC prog _ _ _ (upds σ [(0, ptr sb)]) _ (Cl sb 134 [.slice none 0 0, Iv 0, .slice none 0 0] :: F)
 refine WC_seq (WC_seq (WC_draw [] [Cl sb 134 [.slice none 0 0, Iv 0, .slice none 0 0]] mixed (WDI_take (fun _ _ _ _ _ h => h) 0 rfl rfl rfl (by kernel_rfl) rfl (Q0 (K1 Z0)) (Rm (ptr sb) rfl) (WDI_take (fun _ _ _ _ _ h => h) 1 rfl rfl rfl (by kernel_rfl) rfl (Q0 (K1 Z0)) (Rn sb 0 rfl) (WDI_take (fun _ _ _ _ _ h => h) 2 rfl rfl rfl (by kernel_rfl) rfl (Q0 (K1 Z0)) (Rf sb 0 fa134_1 rfl) (Dt 3 rfl rfl (Q0 (K1 Z0)) (Rl sb 1 (Iv 0) isAgg3 rfl Z0 rfl) (Dt 4 rfl rfl (Q0 (K1 Z0)) (Rm (ptr sb) rfl) (Dt 5 rfl rfl (Q0 (K1 Z0)) (Rn sb 0 rfl) (Dt 6 rfl rfl (Q0 (K1 Z0)) (Rf sb 0 fa134_0 rfl) (Dt 7 rfl rfl (Q0 (K1 Z0)) (Rl sb 0 (.slice none 0 0) isAgg22 rfl Z0 rfl) (Dt 8 rfl rfl (Q0 (K1 Z0)) (rd_lenS (a := none) (k := 0) runUnderlying22 rfl) (Dt 9 rfl rfl (Q0 (K1 Z0)) (Rb (Iv 0) (Iv 0) (.bool false) rfl rfl eqg_int rfl) ?_))))))))))))
 refine WD_done (by kernel_rfl) ?_ _
 refine At_then (WC_false rfl (WC_exit (At_thenX (At_loopX (At_blockX (At_then (Sr (Av (.bool true) (Nr (At_scopeR ?_))))))))))
 exact At_ret1 results106 (fun w q => ⟨rfl, q.mono (E1 Z0)⟩)
theorem c_nextNil {sb : Nat} : ∀ F w, Sat ([Cl sb 134 [.slice none 0 0, Iv 0, .slice none 0 0]] ++ F) w → Calls prog 72 [ptr sb].toArray w fun e w' => e = .returned (.tuple #[tkVal ⟨10, [], 0, 0⟩, .bool true]) ∧ Sat ([Cl sb 134 [.slice none 0 0, Iv 0, .slice none 0 0]] ++ F) w' := by
 intro F
 refine calls_of_WC (fn := f72) func72 rfl rfl (Sr (WL_ef (ef_alloc (l := [Iv 0, Tx [], Iv 0, Iv 0]) zeroValue47 rfl) fun b1 => Av (.bool false) (Ny (Mv (ptr sb) (WL_callQ (Δ := [Cl sb 134 [.slice none 0 0, Iv 0, .slice none 0 0]]) (v := .bool true) call106 rfl (c_blanksNil) (K1 Z1) (Av (.bool true) (Ny (Mv (ptr sb) (Nc sb 0 (Fa sb 0 fa134_1 (Lo sb 1 (Iv 0) isAgg3 Z0 rfl (WL_rd (rd_build (vs := [(2, Iv 0)]) (v := .agg #[Iv 0, Tx [], Iv 0, Iv 0]) rfl (bd47_2 _ rfl )) (WL_ef (ef_alloc (l := [Iv 0, Tx [], Iv 0, Iv 0]) zeroValue47 rfl) fun b2 => Sa b2 0 [Iv 0, Tx [], Iv 0, Iv 0] sizeOf47 Z0 (.put (.put (.put (.put .done)))) (Nz (Mv (.bool true) (WL_rd (rd_not (b := true) rfl) (Nt (Fs (WC_seq (WC_seq (WC_draw [] [Cl sb 134 [.slice none 0 0, Iv 0, .slice none 0 0]] mixed (Dt 0 rfl rfl (Q0 (K1 Z1)) (Rm (ptr sb) rfl) (Dt 1 rfl rfl (Q0 (K1 Z1)) (Rn sb 0 rfl) (Dt 2 rfl rfl (Q0 (K1 Z1)) (Rf sb 0 fa134_1 rfl) (Dt 3 rfl rfl (Q0 (K1 Z1)) (Rl sb 1 (Iv 0) isAgg3 rfl Z0 rfl) (Dt 4 rfl rfl (Q0 (K1 Z1)) (Rm (ptr sb) rfl) (Dt 5 rfl rfl (Q0 (K1 Z1)) (Rn sb 0 rfl) (Dt 6 rfl rfl (Q0 (K1 Z1)) (Rf sb 0 fa134_0 rfl) (Dt 7 rfl rfl (Q0 (K1 Z1)) (Rl sb 0 (.slice none 0 0) isAgg22 rfl Z0 rfl) (Dt 8 rfl rfl (Q0 (K1 Z1)) (rd_lenS (a := none) (k := 0) runUnderlying22 rfl) (Dt 9 rfl rfl (Q0 (K1 Z1)) (Rb (Iv 0) (Iv 0) (.bool true) rfl rfl eqg_int rfl) ?_)))))))))))))))))))))))))))))))
 refine WD_done (by kernel_rfl) ?_ _
 refine At_then (WC_true rfl (WC_seq (WC_draw [9, 10] [Cl sb 134 [.slice none 0 0, Iv 0, .slice none 0 0]] mixed (Dt 0 rfl rfl (Q0 (K1 Z1)) (Rm (ptr sb) rfl) (Dt 1 rfl rfl (Q0 (K1 Z1)) (Rn sb 0 rfl) (Dt 2 rfl rfl (Q0 (K1 Z1)) (Rf sb 0 fa134_1 rfl) (Dt 3 rfl rfl (Q0 (K1 Z1)) (Rl sb 1 (Iv 0) isAgg3 rfl Z0 rfl) (Dt 4 rfl rfl (Q0 (K1 Z1)) (Rm (ptr sb) rfl) (Dt 5 rfl rfl (Q0 (K1 Z1)) (Rn sb 0 rfl) (Dt 6 rfl rfl (Q0 (K1 Z1)) (Rf sb 0 fa134_1 rfl) (Dt 7 rfl rfl (Q0 (K1 Z1)) (Rl sb 1 (Iv 0) isAgg3 rfl Z0 rfl) (Dt 8 rfl rfl (Q0 (K1 Z1)) (rd_build (vs := [(0, Iv 10), (2, Iv 0), (3, Iv 0)]) (v := .agg #[Iv 10, Tx [], Iv 0, Iv 0]) rfl (bd47_0_2_3 _ _ _ rfl rfl rfl )) (WD_ef0 9 (by kernel_rfl) rfl rfl rfl (ef_store (b := b1) (o := 0) (v := .agg #[Iv 10, Tx [], Iv 0, Iv 0]) (vs := [Iv 10, Tx [], Iv 0, Iv 0]) sizeOf47 rfl rfl rfl rfl rfl Z2 (.put (.put (.put (.put .done))))) (late_vac (i := 9) (by kernel_rfl) (by decide)) (WD_rd 10 (by kernel_rfl) rfl rfl rfl (Ra (.bool true) rfl) (late_vac (i := 10) (by kernel_rfl) (by decide)) ?_))))))))))))))
 refine WD_done (by kernel_rfl) ?_ _
 refine At_then (WC_ret (At_thenR ?_))
 exact At_retCV results72 isAgg47 sizeOf47 rfl Z0 rfl (fun w q => ⟨rfl, q.mono (En Z2 D2)⟩)
theorem c_beginNil : ∀ F w, Sat ([] ++ F) w → Calls prog 71 [.slice none 0 0].toArray w fun e w' => ∃ b : Nat, e = .returned (ptr b) ∧ Sat ([Cl b 134 [.slice none 0 0, Iv 0, .slice none 0 0]] ++ F) w' := by
 intro F
 refine calls_of_WC (fn := f71) func71 rfl rfl (Sr (Av (.pointer none) (Ny (Mv (.slice none 0 0) (WL_rd (rd_build (vs := [(0, .slice none 0 0)]) (v := .agg #[.slice none 0 0, Iv 0, .slice none 0 0]) rfl (bd134_0 _ rfl )) (WL_ef (ef_box (v := .agg #[.slice none 0 0, Iv 0, .slice none 0 0]) (l := [.slice none 0 0, Iv 0, .slice none 0 0]) rfl rfl) fun b1 => Av (ptr b1) (Nr ?_)))))))
 exact At_ret1 results71 (fun w q => ⟨b1, rfl, q⟩)
theorem c_scan1Nil {L cb : Nat} {J : List Tk → HP} {JX : Int → Int → HP} (hY : YS L J JX) : ∀ F w, Sat ([Cl cb 22 [.slice none 0 0], J []] ++ F) w → Calls prog 70 [.func (.yield L) #[] #[], ptr cb].toArray w fun e w' => e = .returned (.tuple #[]) ∧ Sat ([J [⟨10, [], 0, 0⟩]] ++ F) w' := by
 intro F
 refine calls_of_WC (fn := f70) func70 rfl rfl (WC_scope0 0 rfl (Sz (Lo cb 0 (.slice none 0 0) isAgg22 Z0 rfl (WL_rd (rd_lenS (a := none) (k := 0) runUnderlying22 rfl) (Bo (Iv 0) (Iv 65536) (.bool false) eqg_int (by rw [binOp_gtr]; rfl) (Nt (Fx (Lo cb 0 (.slice none 0 0) isAgg22 Z0 rfl (WL_callX (Δ0 := []) (Δ := fun b1 => [Cl b1 134 [.slice none 0 0, Iv 0, .slice none 0 0]]) (v := fun b1 => ptr b1) call71 rfl (c_beginNil) (.nil) ?_)))))))))
 rintro b1
 refine Av (ptr b1) (Nt (WC_seq (WC_label (At_then (Sr (Av (Iv 0) (Nt (WC_block (WC_loopF (α := Unit) (fun x => True) (fun x => [(0, .func (.yield L) #[] #[]), (1, ptr cb), (3, ptr b1), (4, Iv 0)]) (fun x => Cl b1 134 [.slice none 0 0, Iv 0, .slice none 0 0] :: Cl cb 22 [.slice none 0 0] :: J [] :: F) (fun x => 0) () (show True from trivial) ⟨rfl, rfl, rfl, rfl, trivial⟩ (E3 Z0 Z0 Z0) ?_)))))))))
 rintro u σ hpre
 replace hpre : True := hpre
 show WC prog _ _ _ (upds σ [(0, .func (.yield L) #[] #[]), (1, ptr cb), (3, ptr b1), (4, Iv 0)]) _ (Cl b1 134 [.slice none 0 0, Iv 0, .slice none 0 0] :: Cl cb 22 [.slice none 0 0] :: J [] :: F)
 refine WC_seq (WC_block (Sr (Mv (ptr b1) (WL_callQ (Δ := [Cl b1 134 [.slice none 0 0, Iv 0, .slice none 0 0]]) (v := .tuple #[.agg #[Iv 10, Tx [], Iv 0, Iv 0], .bool true]) call72 rfl (c_nextNil) (K1 Z0) (Mv (.tuple #[.agg #[Iv 10, Tx [], Iv 0, Iv 0], .bool true]) (Xt (.agg #[Iv 10, Tx [], Iv 0, Iv 0]) (Xt (.bool true) (WL_ef (ef_alloc (l := [Iv 0, Tx [], Iv 0, Iv 0]) zeroValue47 rfl) fun b2 => Sa b2 0 [Iv 10, Tx [], Iv 0, Iv 0] sizeOf47 Z0 (.put (.put (.put (.put .done)))) (Av (.bool true) (Nt (WC_seq (WC_block (Sr (Mv (.bool true) (WL_rd (rd_not (b := true) rfl) (Av (.bool false) (Nt (WC_false rfl (Sr (Mv (Iv 0) (Bo (Iv 0) (Iv 8192) (.bool false) eqg_int (by rw [binOp_eql]; rfl) (Mv (.bool false) (Pa false 33 (Pa false 33 (Pa false 33 (Pk false (Av (.bool false) (Nt (WC_false rfl (WC_seq (WC_regionF (WLF_rd (Rm (.func (.yield L) #[] #[]) rfl) (by intro c h; cases h) (WLF_rd (rd_loadN (b := b2) (o := 0) (vs := [Iv 10, Tx [], Iv 0, Iv 0]) isAgg47 sizeOf47 rfl Z0 rfl rfl) (by intro c h; cases h) (WLF_yield (args := [.agg #[Iv 10, Tx [], Iv 0, Iv 0], Iv 0]) (b := true) rfl rfl (fun w q => hY.1 [] ⟨10, [], 0, 0⟩ _ w (by simp) (q.mono (Sel.ent Z3))) (WLF_rd (rd_not (b := true) rfl) (by intro c h; cases h) (WLF_rd (Rm (.bool false) rfl) (by intro c h; cases h) (WLF_take (b' := false) (e := 48) rfl rfl rfl (WLF_rd (Rf b2 0 fa47_0 rfl) (by intro c h; cases h) ?_))))))))))))))))))))))))))))))))))))))
 refine WLF_take (b' := false) (e := 48) rfl rfl rfl (WLF_rd (Rl b2 0 (Iv 10) isAgg3 rfl Z1 rfl) (by intro c h; cases h) (WLF_take (b' := false) (e := 48) rfl rfl rfl (WLF_rd (Rb (Iv 10) (Iv 10) (.bool true) rfl rfl eqg_int (by rw [binOp_eql]; rfl)) (by intro c h; cases h) (WLF_rd (rd_pick (b := false) rfl) (by intro c h; cases h) (WLF_rd (Ra (.bool true) rfl) (by intro c h; cases h) (WLF_nil (At_then (WC_true rfl (WC_exit (At_blockY rfl (At_thenX (At_blockY rfl (At_thenX (At_loopX (At_blockX (At_scopeN ?_))))))))))))))))
 exact At_end0 results70 (fun w q => ⟨rfl, q.mono (En Z0 D3)⟩)
end
end Go.Proofs
