/- Functions that defer, and functions that recover. -/
import Derived.Test.YtldagpopfebbbaaGreatDoorZC
set_option linter.unusedVariables false
set_option linter.unusedSimpArgs false
namespace Go.Proofs
open Go.Px Tryz
section
variable {pb tb cap K : Nat} {L : List Tk} {g : NT → M PT}
theorem c_turn (t : Tk) : ∀ F w, Sat ([] ++ F) w → Calls prog 81 [tkVal t].toArray w fun e w' => e = .returned (Iv (turnT t)) ∧ Sat ([] ++ F) w' := by
 intro F
 refine calls_of_WC (fn := f81) func81 rfl rfl (Sr (WL_ef (ef_box (v := .agg #[Iv t.kind, Tx t.text, Iv t.pos, Iv t.en]) (l := [Iv t.kind, Tx t.text, Iv t.pos, Iv t.en]) rfl rfl) fun b1 => Av (Iv 0) (Nz (Fa b1 0 fa47_0 (Lo b1 0 (Iv t.kind) isAgg3 Z0 rfl (Nt (WC_block (Sr (Bo (Iv t.kind) (Iv 6) (.bool (t.kind == 6)) eqg_int (binOp_eql _ _ _ _) (Av (.bool (t.kind == 6)) (Nt ?_)))))))))))
 cases hb2 : (t.kind == 6)
 rotate_left 1
 · refine Ts (Av (Iv 1) (Nr (At_blockR (At_thenR ?_))))
   refine At_ret1 results81 (fun w q => ⟨?_, q.mono D1⟩)
   show Ending.returned (Iv 1) = .returned (Iv (turnT t))
   unfold turnT; simp only [hb2, cond_true, cond_false, Bool.or_true, Bool.true_or, Bool.or_false, Bool.false_or]; try rfl
 refine WC_false rfl (Sr (Bo (Iv t.kind) (Iv 8) (.bool (t.kind == 8)) eqg_int (binOp_eql _ _ _ _) (Av (.bool (t.kind == 8)) (Nt ?_))))
 cases hb3 : (t.kind == 8)
 rotate_left 1
 · refine Ts (Av (Iv (-1)) (Nr (At_blockR (At_thenR ?_))))
   refine At_ret1 results81 (fun w q => ⟨?_, q.mono D1⟩)
   show Ending.returned (Iv (-1)) = .returned (Iv (turnT t))
   unfold turnT; simp only [hb2, hb3, cond_true, cond_false, Bool.or_true, Bool.true_or, Bool.or_false, Bool.false_or]; try rfl
 refine WC_false rfl (Sr (Bo (Iv t.kind) (Iv 9) (.bool (t.kind == 9)) eqg_int (binOp_eql _ _ _ _) (Av (.bool (t.kind == 9)) (Nt ?_))))
 cases hb4 : (t.kind == 9)
 · refine WC_false rfl (WC_skip (At_blockN (At_then (Sr (Av (Iv 0) (Nr ?_))))))
   refine At_ret1 results81 (fun w q => ⟨?_, q.mono D1⟩)
   show Ending.returned (Iv 0) = .returned (Iv (turnT t))
   unfold turnT; simp only [hb2, hb3, hb4, cond_true, cond_false, Bool.or_true, Bool.true_or, Bool.or_false, Bool.false_or]; try rfl
 refine Ts (Fa b1 0 fa47_1 (Lo b1 1 (Tx t.text) isAgg9 Z0 rfl (Nt (WC_block (Sz (Bo (Tx t.text) (Tx [40]) (.bool (t.text == [40])) eqg_str (bin_str_eql _ _) (Av (.bool (t.text == [40])) (Nt ?_))))))))
 cases hb5 : (t.text == [40])
 rotate_left 1
 · refine WC_true rfl (WC_skip (At_then (Ts (Av (Iv 1) (Nr (At_blockR (At_blockR (At_thenR ?_))))))))
   refine At_ret1 results81 (fun w q => ⟨?_, q.mono D1⟩)
   show Ending.returned (Iv 1) = .returned (Iv (turnT t))
   unfold turnT; simp only [hb2, hb3, hb4, hb5, cond_true, cond_false, Bool.or_true, Bool.true_or, Bool.or_false, Bool.false_or]; try rfl
 refine WC_false rfl (Sr (Bo (Tx t.text) (Tx [91]) (.bool (t.text == [91])) eqg_str (bin_str_eql _ _) (Av (.bool (t.text == [91])) (Nt ?_))))
 cases hb6 : (t.text == [91])
 rotate_left 1
 · refine WC_true rfl (WC_skip (At_then (Ts (Av (Iv 1) (Nr (At_blockR (At_blockR (At_thenR ?_))))))))
   refine At_ret1 results81 (fun w q => ⟨?_, q.mono D1⟩)
   show Ending.returned (Iv 1) = .returned (Iv (turnT t))
   unfold turnT; simp only [hb2, hb3, hb4, hb5, hb6, cond_true, cond_false, Bool.or_true, Bool.true_or, Bool.or_false, Bool.false_or]; try rfl
 refine WC_false rfl (WC_region (Bo (Tx t.text) (Tx [123]) (.bool (t.text == [123])) eqg_str (bin_str_eql _ _) (Av (.bool (t.text == [123])) (Nt ?_))))
 cases hb7 : (t.text == [123])
 rotate_left 1
 · refine Ts (Av (Iv 1) (Nr (At_blockR (At_blockR (At_thenR ?_)))))
   refine At_ret1 results81 (fun w q => ⟨?_, q.mono D1⟩)
   show Ending.returned (Iv 1) = .returned (Iv (turnT t))
   unfold turnT; simp only [hb2, hb3, hb4, hb5, hb6, hb7, cond_true, cond_false, Bool.or_true, Bool.true_or, Bool.or_false, Bool.false_or]; try rfl
 refine WC_false rfl (Sz (Bo (Tx t.text) (Tx [41]) (.bool (t.text == [41])) eqg_str (bin_str_eql _ _) (Av (.bool (t.text == [41])) (Nt ?_))))
 cases hb8 : (t.text == [41])
 rotate_left 1
 · refine WC_true rfl (WC_skip (At_then (Ts (Av (Iv (-1)) (Nr (At_blockR (At_blockR (At_thenR ?_))))))))
   refine At_ret1 results81 (fun w q => ⟨?_, q.mono D1⟩)
   show Ending.returned (Iv (-1)) = .returned (Iv (turnT t))
   unfold turnT; simp only [hb2, hb3, hb4, hb5, hb6, hb7, hb8, cond_true, cond_false, Bool.or_true, Bool.true_or, Bool.or_false, Bool.false_or]; try rfl
 refine WC_false rfl (Sr (Bo (Tx t.text) (Tx [93]) (.bool (t.text == [93])) eqg_str (bin_str_eql _ _) (Av (.bool (t.text == [93])) (Nt ?_))))
 cases hb9 : (t.text == [93])
 rotate_left 1
 · refine WC_true rfl (WC_skip (At_then (Ts (Av (Iv (-1)) (Nr (At_blockR (At_blockR (At_thenR ?_))))))))
   refine At_ret1 results81 (fun w q => ⟨?_, q.mono D1⟩)
   show Ending.returned (Iv (-1)) = .returned (Iv (turnT t))
   unfold turnT; simp only [hb2, hb3, hb4, hb5, hb6, hb7, hb8, hb9, cond_true, cond_false, Bool.or_true, Bool.true_or, Bool.or_false, Bool.false_or]; try rfl
 refine WC_false rfl (WC_region (Bo (Tx t.text) (Tx [125]) (.bool (t.text == [125])) eqg_str (bin_str_eql _ _) (Av (.bool (t.text == [125])) (Nt ?_))))
 cases hb10 : (t.text == [125])
 rotate_left 1
 · refine Ts (Av (Iv (-1)) (Nr (At_blockR (At_blockR (At_thenR ?_)))))
   refine At_ret1 results81 (fun w q => ⟨?_, q.mono D1⟩)
   show Ending.returned (Iv (-1)) = .returned (Iv (turnT t))
   unfold turnT; simp only [hb2, hb3, hb4, hb5, hb6, hb7, hb8, hb9, hb10, cond_true, cond_false, Bool.or_true, Bool.true_or, Bool.or_false, Bool.false_or]; try rfl
 refine WC_false rfl (WC_skip (At_blockN (At_blockN (At_then (Sr (Av (Iv 0) (Nr ?_)))))))
 refine At_ret1 results81 (fun w q => ⟨?_, q.mono D1⟩)
 show Ending.returned (Iv 0) = .returned (Iv (turnT t))
 unfold turnT; simp only [hb2, hb3, hb4, hb5, hb6, hb7, hb8, hb9, hb10, cond_true, cond_false, Bool.or_true, Bool.true_or, Bool.or_false, Bool.false_or]; try rfl
theorem c_words (s : Bs) : ∀ F w, Sat ([] ++ F) w → Calls prog 272 [Tx s].toArray w fun e w' => e = .returned (Iv (wordsOf s)) ∧ Sat ([] ++ F) w' := by
 intro F
 refine calls_of_WC (fn := f272) func272 rfl rfl (Sr (Av (Iv 0) (Nz (Mv (Tx s) (Nt (WC_block (Sr (Bo (Tx s) (Tx [116, 114, 117, 101]) (.bool (s == [116, 114, 117, 101])) eqg_str (bin_str_eql _ _) (Av (.bool (s == [116, 114, 117, 101])) (Nt ?_))))))))))
 cases hb1 : (s == [116, 114, 117, 101])
 rotate_left 1
 · refine Ts (Av (Iv 13) (Nr (At_blockR (At_thenR ?_))))
   refine At_ret1 results272 (fun w q => ⟨?_, q.mono E0⟩)
   show Ending.returned (Iv 13) = .returned (Iv (wordsOf s))
   unfold wordsOf; simp only [hb1, cond_true, cond_false, Bool.or_true, Bool.true_or, Bool.or_false, Bool.false_or]; try rfl
 refine WC_false rfl (Sr (Bo (Tx s) (Tx [102, 97, 108, 115, 101]) (.bool (s == [102, 97, 108, 115, 101])) eqg_str (bin_str_eql _ _) (Av (.bool (s == [102, 97, 108, 115, 101])) (Nt ?_))))
 cases hb2 : (s == [102, 97, 108, 115, 101])
 rotate_left 1
 · refine Ts (Av (Iv 14) (Nr (At_blockR (At_thenR ?_))))
   refine At_ret1 results272 (fun w q => ⟨?_, q.mono E0⟩)
   show Ending.returned (Iv 14) = .returned (Iv (wordsOf s))
   unfold wordsOf; simp only [hb1, hb2, cond_true, cond_false, Bool.or_true, Bool.true_or, Bool.or_false, Bool.false_or]; try rfl
 refine WC_false rfl (Sr (Bo (Tx s) (Tx [110, 117, 108, 108]) (.bool (s == [110, 117, 108, 108])) eqg_str (bin_str_eql _ _) (Av (.bool (s == [110, 117, 108, 108])) (Nt ?_))))
 cases hb3 : (s == [110, 117, 108, 108])
 rotate_left 1
 · refine Ts (Av (Iv 15) (Nr (At_blockR (At_thenR ?_))))
   refine At_ret1 results272 (fun w q => ⟨?_, q.mono E0⟩)
   show Ending.returned (Iv 15) = .returned (Iv (wordsOf s))
   unfold wordsOf; simp only [hb1, hb2, hb3, cond_true, cond_false, Bool.or_true, Bool.true_or, Bool.or_false, Bool.false_or]; try rfl
 refine WC_false rfl (Sr (Bo (Tx s) (Tx [117, 110, 100, 101, 102, 105, 110, 101, 100]) (.bool (s == [117, 110, 100, 101, 102, 105, 110, 101, 100])) eqg_str (bin_str_eql _ _) (Av (.bool (s == [117, 110, 100, 101, 102, 105, 110, 101, 100])) (Nt ?_))))
 cases hb4 : (s == [117, 110, 100, 101, 102, 105, 110, 101, 100])
 rotate_left 1
 · refine Ts (Av (Iv 16) (Nr (At_blockR (At_thenR ?_))))
   refine At_ret1 results272 (fun w q => ⟨?_, q.mono E0⟩)
   show Ending.returned (Iv 16) = .returned (Iv (wordsOf s))
   unfold wordsOf; simp only [hb1, hb2, hb3, hb4, cond_true, cond_false, Bool.or_true, Bool.true_or, Bool.or_false, Bool.false_or]; try rfl
 refine WC_false rfl (Sr (Bo (Tx s) (Tx [116, 104, 105, 115]) (.bool (s == [116, 104, 105, 115])) eqg_str (bin_str_eql _ _) (Av (.bool (s == [116, 104, 105, 115])) (Nt ?_))))
 cases hb5 : (s == [116, 104, 105, 115])
 rotate_left 1
 · refine Ts (Av (Iv 18) (Nr (At_blockR (At_thenR ?_))))
   refine At_ret1 results272 (fun w q => ⟨?_, q.mono E0⟩)
   show Ending.returned (Iv 18) = .returned (Iv (wordsOf s))
   unfold wordsOf; simp only [hb1, hb2, hb3, hb4, hb5, cond_true, cond_false, Bool.or_true, Bool.true_or, Bool.or_false, Bool.false_or]; try rfl
 refine WC_false rfl (WC_skip (At_blockN (At_then (Sr (Av (Iv 0) (Nr ?_))))))
 refine At_ret1 results272 (fun w q => ⟨?_, q.mono E0⟩)
 show Ending.returned (Iv 0) = .returned (Iv (wordsOf s))
 unfold wordsOf; simp only [hb1, hb2, hb3, hb4, hb5, cond_true, cond_false, Bool.or_true, Bool.true_or, Bool.or_false, Bool.false_or]; try rfl
theorem u8_neq (c d : UInt8) : (((c.toNat : Nat) : Int) != ((d.toNat : Nat) : Int)) = (c != d) := by
 have h : (((c.toNat : Nat) : Int) = ((d.toNat : Nat) : Int)) ↔ c = d := ⟨fun h => UInt8.toNat_inj.1 (by omega), fun h => by rw [h]⟩
 by_cases e : c = d
 · subst e; simp
 have h1 := mt h.1 e; rw [bne, bne, show (((c.toNat : Nat) : Int) == ((d.toNat : Nat) : Int)) = false from by simpa using h1, show (c == d) = false from by simpa using e]
theorem c_split (t : Tk) (hp0 : 0 ≤ t.pos ∧ t.pos ≤ 1099511627776) : ∀ F w, Sat ([] ++ F) w → Calls prog 243 [tkVal t].toArray w fun e w' => e = .returned (.tuple #[tkVal ((splitT t).getD ⟨0, [], 0, 0⟩), .bool (splitT t).isSome]) ∧ Sat ([] ++ F) w' := by
 obtain ⟨k, x, p, en⟩ := t
 have hp1 : 0 ≤ p ∧ p ≤ 1099511627776 := hp0
 rcases x with _ | ⟨c, _ | ⟨d, l⟩⟩
 · intro F
   refine calls_of_WC (fn := f243) func243 rfl rfl (Sr (WL_ef (ef_box (v := .agg #[Iv k, Tx [], Iv p, Iv en]) (l := [Iv k, Tx [], Iv p, Iv en]) rfl rfl) fun b1 => WL_ef (ef_alloc (l := [Iv 0, Tx [], Iv 0, Iv 0]) zeroValue47 rfl) fun b2 => Av (.bool false) (Nz (Fa b1 0 fa47_0 (Lo b1 0 (Iv k) isAgg3 Z1 rfl (Bo (Iv k) (Iv 9) (.bool (k != 9)) eqg_int (binOp_neq _ _ _ _) (Mv (.bool (k != 9)) ?_)))))))
   cases hb3 : (k != 9)
   · refine Ta false 7 (Fa b1 0 fa47_1 (Ta false 7 (Lo b1 1 (Tx []) isAgg9 Z1 rfl (Ta false 7 (WL_rd (rd_lenBs (s := []) runUnderlying9 rfl) (Ta false 7 (Bo (Iv (([].length : Nat) : Int)) (Iv 2) (.bool true) eqg_int (by rw [binOp_lss]; rw [show decide (([] : List UInt8).length < (2 : Int)) = true from by simp <;> omega]) (Pk false (Mv (.bool true) (Pa true 13 (Pa true 13 (Pa true 13 (Pa true 13 (Pk true (Nt (Ts (WL_rd (rd_build (vs := []) (v := .agg #[Iv 0, Tx [], Iv 0, Iv 0]) rfl (bd47_z )) (Sa b2 0 [Iv 0, Tx [], Iv 0, Iv 0] sizeOf47 Z0 (.put (.put (.put (.put .done)))) (Av (.bool false) (Nr (At_thenR ?_)))))))))))))))))))))
     refine At_retCV results243 isAgg47 sizeOf47 rfl Z0 rfl (fun w q => ⟨?_, q.mono D2⟩)
     show Ending.returned (.tuple #[.agg #[Iv 0, Tx [], Iv 0, Iv 0], .bool false]) = .returned (.tuple #[tkVal ((splitT ⟨k, [], p, en⟩).getD ⟨0, [], 0, 0⟩), .bool (splitT ⟨k, [], p, en⟩).isSome])
     rfl
   refine Pa true 7 (Pa true 7 (Pa true 7 (Pa true 7 (Pk true (Mv (.bool true) (Pa true 13 (Pa true 13 (Pa true 13 (Pa true 13 (Pk true (Nt (Ts (WL_rd (rd_build (vs := []) (v := .agg #[Iv 0, Tx [], Iv 0, Iv 0]) rfl (bd47_z )) (Sa b2 0 [Iv 0, Tx [], Iv 0, Iv 0] sizeOf47 Z0 (.put (.put (.put (.put .done)))) (Av (.bool false) (Nr (At_thenR ?_)))))))))))))))))
   refine At_retCV results243 isAgg47 sizeOf47 rfl Z0 rfl (fun w q => ⟨?_, q.mono D2⟩)
   show Ending.returned (.tuple #[.agg #[Iv 0, Tx [], Iv 0, Iv 0], .bool false]) = .returned (.tuple #[tkVal ((splitT ⟨k, [], p, en⟩).getD ⟨0, [], 0, 0⟩), .bool (splitT ⟨k, [], p, en⟩).isSome])
   rfl
 · intro F
   refine calls_of_WC (fn := f243) func243 rfl rfl (Sr (WL_ef (ef_box (v := .agg #[Iv k, Tx [c], Iv p, Iv en]) (l := [Iv k, Tx [c], Iv p, Iv en]) rfl rfl) fun b1 => WL_ef (ef_alloc (l := [Iv 0, Tx [], Iv 0, Iv 0]) zeroValue47 rfl) fun b2 => Av (.bool false) (Nz (Fa b1 0 fa47_0 (Lo b1 0 (Iv k) isAgg3 Z1 rfl (Bo (Iv k) (Iv 9) (.bool (k != 9)) eqg_int (binOp_neq _ _ _ _) (Mv (.bool (k != 9)) ?_)))))))
   cases hb3 : (k != 9)
   · refine Ta false 7 (Fa b1 0 fa47_1 (Ta false 7 (Lo b1 1 (Tx [c]) isAgg9 Z1 rfl (Ta false 7 (WL_rd (rd_lenBs (s := [c]) runUnderlying9 rfl) (Ta false 7 (Bo (Iv (([c].length : Nat) : Int)) (Iv 2) (.bool true) eqg_int (by rw [binOp_lss]; rw [show decide (([c] : List UInt8).length < (2 : Int)) = true from by simp <;> omega]) (Pk false (Mv (.bool true) (Pa true 13 (Pa true 13 (Pa true 13 (Pa true 13 (Pk true (Nt (Ts (WL_rd (rd_build (vs := []) (v := .agg #[Iv 0, Tx [], Iv 0, Iv 0]) rfl (bd47_z )) (Sa b2 0 [Iv 0, Tx [], Iv 0, Iv 0] sizeOf47 Z0 (.put (.put (.put (.put .done)))) (Av (.bool false) (Nr (At_thenR ?_)))))))))))))))))))))
     refine At_retCV results243 isAgg47 sizeOf47 rfl Z0 rfl (fun w q => ⟨?_, q.mono D2⟩)
     show Ending.returned (.tuple #[.agg #[Iv 0, Tx [], Iv 0, Iv 0], .bool false]) = .returned (.tuple #[tkVal ((splitT ⟨k, [c], p, en⟩).getD ⟨0, [], 0, 0⟩), .bool (splitT ⟨k, [c], p, en⟩).isSome])
     rfl
   refine Pa true 7 (Pa true 7 (Pa true 7 (Pa true 7 (Pk true (Mv (.bool true) (Pa true 13 (Pa true 13 (Pa true 13 (Pa true 13 (Pk true (Nt (Ts (WL_rd (rd_build (vs := []) (v := .agg #[Iv 0, Tx [], Iv 0, Iv 0]) rfl (bd47_z )) (Sa b2 0 [Iv 0, Tx [], Iv 0, Iv 0] sizeOf47 Z0 (.put (.put (.put (.put .done)))) (Av (.bool false) (Nr (At_thenR ?_)))))))))))))))))
   refine At_retCV results243 isAgg47 sizeOf47 rfl Z0 rfl (fun w q => ⟨?_, q.mono D2⟩)
   show Ending.returned (.tuple #[.agg #[Iv 0, Tx [], Iv 0, Iv 0], .bool false]) = .returned (.tuple #[tkVal ((splitT ⟨k, [c], p, en⟩).getD ⟨0, [], 0, 0⟩), .bool (splitT ⟨k, [c], p, en⟩).isSome])
   rfl
 intro F
 refine calls_of_WC (fn := f243) func243 rfl rfl (Sr (WL_ef (ef_box (v := .agg #[Iv k, Tx (c :: d :: l), Iv p, Iv en]) (l := [Iv k, Tx (c :: d :: l), Iv p, Iv en]) rfl rfl) fun b1 => WL_ef (ef_alloc (l := [Iv 0, Tx [], Iv 0, Iv 0]) zeroValue47 rfl) fun b2 => Av (.bool false) (Nz (Fa b1 0 fa47_0 (Lo b1 0 (Iv k) isAgg3 Z1 rfl (Bo (Iv k) (Iv 9) (.bool (k != 9)) eqg_int (binOp_neq _ _ _ _) (Mv (.bool (k != 9)) ?_)))))))
 cases hb3 : (k != 9)
 rotate_left 1
 · refine Pa true 7 (Pa true 7 (Pa true 7 (Pa true 7 (Pk true (Mv (.bool true) (Pa true 13 (Pa true 13 (Pa true 13 (Pa true 13 (Pk true (Nt (Ts (WL_rd (rd_build (vs := []) (v := .agg #[Iv 0, Tx [], Iv 0, Iv 0]) rfl (bd47_z )) (Sa b2 0 [Iv 0, Tx [], Iv 0, Iv 0] sizeOf47 Z0 (.put (.put (.put (.put .done)))) (Av (.bool false) (Nr (At_thenR ?_)))))))))))))))))
   refine At_retCV results243 isAgg47 sizeOf47 rfl Z0 rfl (fun w q => ⟨?_, q.mono D2⟩)
   show Ending.returned (.tuple #[.agg #[Iv 0, Tx [], Iv 0, Iv 0], .bool false]) = .returned (.tuple #[tkVal ((splitT ⟨k, (c :: d :: l), p, en⟩).getD ⟨0, [], 0, 0⟩), .bool (splitT ⟨k, (c :: d :: l), p, en⟩).isSome])
   have u62 := u8_neq c 62; simp only [show (((62 : UInt8).toNat : Nat) : Int) = 62 from rfl] at u62
   have e9 : (k == 9) = !(k != 9) := by simp [bne]
   have e62 : (c == 62) = !(((c.toNat : Nat) : Int) != 62) := by rw [u62]; simp [bne]
   simp only [splitT, e9, e62, hb3, Bool.not_true, Bool.not_false, Bool.true_and, Bool.false_and, cond_true, cond_false]; rfl
 refine Ta false 7 (Fa b1 0 fa47_1 (Ta false 7 (Lo b1 1 (Tx (c :: d :: l)) isAgg9 Z1 rfl (Ta false 7 (WL_rd (rd_lenBs (s := (c :: d :: l)) runUnderlying9 rfl) (Ta false 7 (Bo (Iv (((c :: d :: l).length : Nat) : Int)) (Iv 2) (.bool false) eqg_int (by rw [binOp_lss]; rw [show decide (((c :: d :: l) : List UInt8).length < (2 : Int)) = false from by simp <;> omega]) (Pk false (Mv (.bool false) (Ta false 13 (Fa b1 0 fa47_1 (Ta false 13 (Lo b1 1 (Tx (c :: d :: l)) isAgg9 Z1 rfl (Ta false 13 (WL_rd (rd_indexBs (s := (c :: d :: l)) (j := 0) (c := c) runUnderlying9 rfl rfl (rfl) (rfl)) (Ta false 13 (Bo (.int .u8 c.toNat) (.int .u8 62) (.bool (((c.toNat : Nat) : Int) != 62)) eqg_int (binOp_neq _ _ _ _) (Pk false (Nt ?_)))))))))))))))))))
 cases hb4 : (((c.toNat : Nat) : Int) != 62)
 rotate_left 1
 · refine Ts (WL_rd (rd_build (vs := []) (v := .agg #[Iv 0, Tx [], Iv 0, Iv 0]) rfl (bd47_z )) (Sa b2 0 [Iv 0, Tx [], Iv 0, Iv 0] sizeOf47 Z0 (.put (.put (.put (.put .done)))) (Av (.bool false) (Nr (At_thenR ?_)))))
   refine At_retCV results243 isAgg47 sizeOf47 rfl Z0 rfl (fun w q => ⟨?_, q.mono D2⟩)
   show Ending.returned (.tuple #[.agg #[Iv 0, Tx [], Iv 0, Iv 0], .bool false]) = .returned (.tuple #[tkVal ((splitT ⟨k, (c :: d :: l), p, en⟩).getD ⟨0, [], 0, 0⟩), .bool (splitT ⟨k, (c :: d :: l), p, en⟩).isSome])
   have u62 := u8_neq c 62; simp only [show (((62 : UInt8).toNat : Nat) : Int) = 62 from rfl] at u62
   have e9 : (k == 9) = !(k != 9) := by simp [bne]
   have e62 : (c == 62) = !(((c.toNat : Nat) : Int) != 62) := by rw [u62]; simp [bne]
   simp only [splitT, e9, e62, hb3, hb4, Bool.not_true, Bool.not_false, Bool.true_and, Bool.false_and, cond_true, cond_false]; rfl
 refine Fs (WC_seq (WC_draw [6, 7, 8, 9] [Cl b1 47 [Iv k, Tx (c :: d :: l), Iv p, Iv en]] mixed (Dt 0 rfl rfl (Q0 (K1 Z1)) (Rf b1 0 fa47_1 rfl) (Dt 1 rfl rfl (Q0 (K1 Z1)) (Rl b1 1 (Tx (c :: d :: l)) isAgg9 rfl Z0 rfl) (Dt 2 rfl rfl (Q0 (K1 Z1)) (rd_sliceBs (s := (c :: d :: l)) (j := 1) runUnderlying9 rfl rfl (by omega) (by simp)) (Dt 3 rfl rfl (Q0 (K1 Z1)) (Rf b1 0 fa47_2 rfl) (Dt 4 rfl rfl (Q0 (K1 Z1)) (Rl b1 2 (Iv p) isAgg3 rfl Z0 rfl) (Dp 5 rfl rfl (fun _ => Q0 (K1 Z1)) (Rb (Iv p) (Iv 1) (Iv (p + 1)) rfl rfl eqg_int (bin_add (by omega) (by omega))) (WD_rd 6 (by kernel_rfl) rfl rfl rfl (Rf b1 0 fa47_1 rfl) (late_vac (i := 6) (by kernel_rfl) (by decide)) (WD_ef0 7 (by kernel_rfl) rfl rfl rfl (ef_store (b := b1) (o := 1) (v := Tx (d :: l)) (vs := [Tx (d :: l)]) sizeOf9 rfl rfl rfl rfl rfl Z1 (.skip (.put .done))) (late_vac (i := 7) (by kernel_rfl) (by decide)) (WD_rd 8 (by kernel_rfl) rfl rfl rfl (Rf b1 0 fa47_2 rfl) (late_vac (i := 8) (by kernel_rfl) (by decide)) (WD_ef0 9 (by kernel_rfl) rfl rfl rfl (ef_store (b := b1) (o := 2) (v := Iv (p + 1)) (vs := [Iv (p + 1)]) sizeOf3 rfl rfl rfl rfl rfl Z0 (.skip (.skip (.put .done)))) (late_vac (i := 9) (by kernel_rfl) (by decide)) ?_))))))))))))
 refine WD_done (by kernel_rfl) ?_ _
 refine At_then (Sr (WL_rd (rd_loadN (b := b1) (o := 0) (vs := [Iv k, Tx (d :: l), Iv (p + 1), Iv en]) isAgg47 sizeOf47 rfl Z0 rfl rfl) (Sa b2 0 [Iv k, Tx (d :: l), Iv (p + 1), Iv en] sizeOf47 Z1 (.put (.put (.put (.put .done)))) (Av (.bool true) (Nr ?_)))))
 refine At_retCV results243 isAgg47 sizeOf47 rfl Z0 rfl (fun w q => ⟨?_, q.mono D2⟩)
 show Ending.returned (.tuple #[.agg #[Iv k, Tx (d :: l), Iv (p + 1), Iv en], .bool true]) = .returned (.tuple #[tkVal ((splitT ⟨k, (c :: d :: l), p, en⟩).getD ⟨0, [], 0, 0⟩), .bool (splitT ⟨k, (c :: d :: l), p, en⟩).isSome])
 have u62 := u8_neq c 62; simp only [show (((62 : UInt8).toNat : Nat) : Int) = 62 from rfl] at u62
 have e9 : (k == 9) = !(k != 9) := by simp [bne]
 have e62 : (c == 62) = !(((c.toNat : Nat) : Int) != 62) := by rw [u62]; simp [bne]
 simp only [splitT, e9, e62, hb3, hb4, Bool.not_true, Bool.not_false, Bool.true_and, Bool.false_and, cond_true, cond_false]; rfl
theorem c_angle : ConM 219 [ptr pb] pb tb L cap [] angleM (resV unVal) := by
 intro ts r H F
 show ∀ w, Sat (PO pb tb L cap ts :: TB tb L :: F) w → _
 unfold angleM at H
 try simp only [nr] at H
 refine calls_of_WC (fn := f219) func219 rfl rfl (Sz (Mv (ptr pb) (Cv call134 (c_take [62]) H (K2 Z0 Z0) (.tail E0) fun b1 ts2 H => Nt ?_)))
 cases hb4 : (b1)
 rotate_left 1
 · try simp only [nr, hb4] at H
   refine WC_true rfl (WC_ret (At_thenR ?_))
   try simp only [nr] at H
   exact At_ret0 results219 (fin_val H rfl (K2 Z0 Z0) E0)
 try simp only [nr, hb4] at H
 refine Fx (Mv (ptr pb) (WL.know (po_know Z0) fun hok => WL_callVm call85 rfl c_now H (K2 Z0 Z0) (fun _ _ h => ⟨rfl, h⟩) rfl (.tail E0) ?_))
 intro t5 ts6 hm H9
 clear H
 obtain ⟨htok, hts', rest', hrest⟩ := head_ok hok hm
 subst hts'
 have H := H9
 clear H9
 cases hsp : splitT t5 with
 | none =>
  try simp only [hsp] at H
  refine WL_callQ (Δ := []) (v := .tuple #[.agg #[Iv 0, Tx [], Iv 0, Iv 0], .bool false]) call243 rfl (by have hc := c_split t5 ⟨htok.2.2.1.1, by have := htok.2.2.1.2; omega⟩; rw [hsp] at hc; exact hc) .nil (Mv (.tuple #[.agg #[Iv 0, Tx [], Iv 0, Iv 0], .bool false]) (Xt (.agg #[Iv 0, Tx [], Iv 0, Iv 0]) (Xt (.bool false) (WL_ef (ef_alloc (l := [Iv 0, Tx [], Iv 0, Iv 0]) zeroValue47 rfl) fun b7 => Sa b7 0 [Iv 0, Tx [], Iv 0, Iv 0] sizeOf47 Z0 (.put (.put (.put (.put .done)))) (Av (.bool false) (Nz (Mv (.bool false) (WL_rd (rd_not (b := false) rfl) (Nt (Tr (Mv (ptr pb) ?_)))))))))))
  exact WL_fail call89 rfl c_fail H (K2 Z1 Z1) (fun _ _ h => ⟨rfl, h⟩) rfl (.tail D1)
 | some u =>
  try simp only [hsp] at H
  refine WL_callQ (Δ := []) (v := .tuple #[.agg #[Iv u.kind, Tx u.text, Iv u.pos, Iv u.en], .bool true]) call243 rfl (by have hc := c_split t5 ⟨htok.2.2.1.1, by have := htok.2.2.1.2; omega⟩; rw [hsp] at hc; exact hc) .nil (Mv (.tuple #[.agg #[Iv u.kind, Tx u.text, Iv u.pos, Iv u.en], .bool true]) (Xt (.agg #[Iv u.kind, Tx u.text, Iv u.pos, Iv u.en]) (Xt (.bool true) (WL_ef (ef_alloc (l := [Iv 0, Tx [], Iv 0, Iv 0]) zeroValue47 rfl) fun b8 => Sa b8 0 [Iv u.kind, Tx u.text, Iv u.pos, Iv u.en] sizeOf47 Z0 (.put (.put (.put (.put .done)))) (Av (.bool true) (Nz (Mv (.bool true) (WL_rd (rd_not (b := true) rfl) (Nt (Fs (WC.ent (Sels.ent (K1 Z1)) (WC.openPO fun i l s hp => ?_))))))))))))
  rw [hrest] at hp
  have hp2 := pok_split hp hsp
  rw [hrest] at H
  have hr : r = .ok ((), u :: rest') := (Option.some.inj H).symm
  refine WC_region (Mv (ptr pb) (Mv (ptr pb) (WL_rd (rd_loadN (b := b8) (o := 0) (vs := [Iv u.kind, Tx u.text, Iv u.pos, Iv u.en]) isAgg47 sizeOf47 rfl Z1 rfl rfl) (Nc pb 0 (Fa pb 0 fa115_2 (Sa pb 2 [Iv u.kind, Tx u.text, Iv u.pos, Iv u.en] sizeOf47 Z0 (.skip (.skip (.put (.put (.put (.put .done)))))) (Nc pb 0 (Fa pb 0 fa115_3 (S1 pb 6 (.bool true) sizeOf4 Z0 (.skip (.skip (.skip (.skip (.skip (.skip (.put .done))))))) (WL_nil ?_))))))))))
  exact At_end0 results219 (fin_valO (l := u) (s := true) hr rfl hp2 (K2 Z0 Z1) D1)
def closedInv (L ts : List Tk) (i j : Nat) (n : Int) : Prop := closeAt 0 ts = closeAt n (L.drop j) ∧ i ≤ j ∧ j ≤ L.length ∧ -(j : Int) ≤ n ∧ n ≤ (j : Int)
theorem closedInv_first {L ts : List Tk} {i : Nat} {l : Tk} {s : Bool} (hp : POK L i l s ts) : closedInv L ts i i 0 := by
 obtain ⟨_, hi, ⟨t, ht, hts⟩, hs⟩ := hp
 refine ⟨?_, Nat.le_refl _, by omega, by omega, by omega⟩
 have hd : L.drop i = t :: L.drop (i + 1) := by
  obtain ⟨h1, h2⟩ := List.getElem?_eq_some_iff.1 ht
  rw [List.drop_eq_getElem_cons h1, h2]
 rw [hts, hd]
 unfold closeAt
 cases s with
 | false => rfl
 | true => rw [cond_true, (hs rfl).2.2 t ht]
theorem closedInv_next {L ts : List Tk} {i j : Nat} {n : Int} {u : Tk} (h : closedInv L ts i j n) (hu : L[j]? = some u) (hz : ¬ (n + turnT u = 0)) : closedInv L ts i (j + 1) (n + turnT u) := by
 obtain ⟨hc, h1, h2, h3, h4⟩ := h
 obtain ⟨h5, h6⟩ := List.getElem?_eq_some_iff.1 hu
 have hb := turn_bound u
 refine ⟨?_, by omega, by omega, by omega, by omega⟩
 rw [hc, List.drop_eq_getElem_cons h5, h6, closeAt, show (n + turnT u == 0) = false from by simpa using hz, cond_false]
theorem last_drop {L ts : List Tk} {i : Nat} {l : Tk} {s : Bool} {z u2 : Tk} (hp : POK L i l s ts) (hu : L[L.length - 1]? = some u2) : ts.getLast?.getD z = u2 := by
 obtain ⟨_, hi, ⟨t, ht, hts⟩, hs⟩ := hp
 rw [hts, List.getLast?_cons, Option.getD_some]
 by_cases h1 : i + 1 < L.length
 · rw [List.getLast?_drop, if_neg (by omega), List.getLast?_eq_getElem?, hu, Option.getD_some]
 have hd : L.drop (i + 1) = [] := List.drop_eq_nil_of_le (by omega)
 have hsf : s = false := by cases hs' : s with | false => rfl | true => exact absurd (hs hs').1 h1
 rw [hd, hsf]
 have hii : i = L.length - 1 := by omega
 rw [hii, hu] at ht
 exact (Option.some.inj ht).symm
theorem closed_spec {L ts : List Tk} {i : Nat} {l : Tk} {s : Bool} {r : Except Int (Tk × List Tk)} (hp : POK L i l s ts) (H : closedM ts = some r) :
 ∃ V, (∀ u2, L[L.length - 1]? = some u2 → V = (match closeAt 0 ts with | some (u :: _) => u | _ => u2)) ∧ r = .ok (V, ts) := by
 have hne : ∃ t l, ts = t :: l := by obtain ⟨_, _, ⟨t, ht, hts⟩, _⟩ := hp; exact ⟨_, _, hts⟩
 obtain ⟨t, l', rfl⟩ := hne
 refine ⟨_, fun u2 hu => ?_, (Option.some.inj H).symm⟩
 have := last_drop (z := t) hp hu
 rw [this]
 cases closeAt 0 (t :: l') with
 | none => rfl
 | some x => cases x <;> rfl
theorem closed_next {L ts : List Tk} {i j : Nat} {n : Int} {u u2 V : Tk} (h : closedInv L ts i j n) (hV : ∀ u2, L[L.length - 1]? = some u2 → V = (match closeAt 0 ts with | some (u :: _) => u | _ => u2)) (hu : L[j]? = some u)
 (hz : n + turnT u = 0) (h2 : L[j + 1]? = some u2 ∨ (L.length ≤ j + 1 ∧ L[L.length - 1]? = some u2)) : V = u2 := by
 obtain ⟨hc, h1, h3, h4⟩ := h
 obtain ⟨h5, h6⟩ := List.getElem?_eq_some_iff.1 hu
 have hcl : closeAt 0 ts = some (L.drop (j + 1)) := by
  rw [hc, List.drop_eq_getElem_cons h5, h6, closeAt, show (n + turnT u == 0) = true from by simpa using hz, cond_true]
 have hV := hV (L[L.length - 1]'(by omega)) (List.getElem?_eq_getElem (by omega))
 rw [hcl] at hV
 rcases h2 with h2 | ⟨hle, h2⟩
 · obtain ⟨h7, h8⟩ := List.getElem?_eq_some_iff.1 h2
   rw [List.drop_eq_getElem_cons h7, h8] at hV
   exact hV
 rw [List.drop_eq_nil_of_le hle] at hV
 rw [List.getElem?_eq_getElem (by omega)] at h2
 rw [hV]; exact Option.some.inj h2
theorem closed_end {L ts : List Tk} {i j : Nat} {n : Int} {u2 V : Tk} (h : closedInv L ts i j n) (hV : ∀ u2, L[L.length - 1]? = some u2 → V = (match closeAt 0 ts with | some (u :: _) => u | _ => u2)) (hj : j = L.length) (h2 : L[L.length - 1]? = some u2) : V = u2 := by
 obtain ⟨hc, _⟩ := h
 rw [hV u2 h2, hc, hj, List.drop_length]
 rfl
theorem c_closed : ConM 190 [ptr pb] pb tb L cap [] closedM (resV tkVal) := by
 intro ts r H F
 show ∀ w, Sat (PO pb tb L cap ts :: TB tb L :: F) w → _
 refine calls_of_WC (fn := f190) func190 rfl rfl (Sr (WL_ef (ef_alloc (l := [Iv 0, Tx [], Iv 0, Iv 0]) zeroValue47 rfl) fun b1 => Ny (Av (Iv 0) (Nt (WC_seq (WC_seq (WC.ent (Sels.ent (K1 Z1)) (WC.openPO fun i l s hp => ?_))))))))
 obtain ⟨⟨hL1, hL2, hL3⟩, hi, ⟨t, ht, hts⟩, hs⟩ := id hp
 obtain ⟨V, hV, hr⟩ := closed_spec hp H
 refine WC_region (Mv (ptr pb) (Nc pb 0 (Fa pb 0 fa115_1 (Lo pb 1 (Iv (i : Nat)) isAgg3 Z0 rfl (Av (Iv (i : Nat)) (Nt (WC_block (WC_loopF (α := Nat × Int) (fun x => closedInv L ts i x.1 x.2) (fun x => [(0, ptr pb), (2, ptr b1), (3, Iv x.2), (4, Iv x.1)]) (fun _ => Cl pb 115 [Sl tb L.length cap, Iv (i : Nat), Iv l.kind, Tx l.text, Iv l.pos, Iv l.en, .bool s] :: Cl b1 47 [Iv 0, Tx [], Iv 0, Iv 0] :: TB tb L :: F) (fun x => L.length - x.1) (i, 0) (closedInv_first hp) ⟨rfl, rfl, rfl, rfl, trivial⟩ (E3 Z0 Z0 Z0) ?_))))))))
 rintro ⟨j, n⟩ σ hinv
 obtain ⟨hc, hij, hjl, hn1, hn2⟩ := id hinv
 simp only at hc hij hjl hn1 hn2
 show WC prog _ _ _ (upds σ [(0, ptr pb), (2, ptr b1), (3, Iv n), (4, Iv j)]) _ (Cl pb 115 [Sl tb L.length cap, Iv (i : Nat), Iv l.kind, Tx l.text, Iv l.pos, Iv l.en, .bool s] :: Cl b1 47 [Iv 0, Tx [], Iv 0, Iv 0] :: TB tb L :: F)
 refine Sz (Mv (Iv j) (Mv (ptr pb) (Nc pb 0 (Fa pb 0 fa115_0 (Lo pb 0 (Sl tb L.length cap) isAgg43 Z0 rfl (WL_rd (rd_lenS (a := (some ⟨tb, 0, none⟩)) (k := L.length) runUnderlying43 rfl) (Bo (Iv j) (Iv (L.length : Nat)) (.bool (decide (((j : Nat) : Int) < (L.length : Nat)))) eqg_int (binOp_lss _ _ _ _) (Nt ?_))))))))
 cases hb2 : (decide (((j : Nat) : Int) < (L.length : Nat)))
 · refine WC_false rfl (WC_exit (At_thenX (At_loopX (At_blockX (At_then (WC_seq ?_))))))
   have hjn : ¬ (j < L.length) := by simpa using hb2
   have hje : j = L.length := by omega
   obtain ⟨u2, hu2⟩ : ∃ u2, L[L.length - 1]? = some u2 := ⟨L[L.length - 1]'(by omega), by simp <;> omega⟩
   refine WC_draw [12] [Cl pb 115 [Sl tb L.length cap, Iv (i : Nat), Iv l.kind, Tx l.text, Iv l.pos, Iv l.en, .bool s], TB tb L] mixed (Dt 0 rfl rfl (Q0 (K2 Z0 Z1)) (Rm (ptr pb) rfl) (Dt 1 rfl rfl (Q0 (K2 Z0 Z1)) (Rn pb 0 rfl) (Dt 2 rfl rfl (Q0 (K2 Z0 Z1)) (Rf pb 0 fa115_0 rfl) (Dt 3 rfl rfl (Q0 (K2 Z0 Z1)) (Rl pb 0 (Sl tb L.length cap) isAgg43 rfl Z0 rfl) (Dt 4 rfl rfl (Q0 (K2 Z0 Z1)) (Rm (ptr pb) rfl) (Dt 5 rfl rfl (Q0 (K2 Z0 Z1)) (Rn pb 0 rfl) (Dt 6 rfl rfl (Q0 (K2 Z0 Z1)) (Rf pb 0 fa115_0 rfl) (Dt 7 rfl rfl (Q0 (K2 Z0 Z1)) (Rl pb 0 (Sl tb L.length cap) isAgg43 rfl Z0 rfl) (Dt 8 rfl rfl (Q0 (K2 Z0 Z1)) (rd_lenS (a := (some ⟨tb, 0, none⟩)) (k := L.length) runUnderlying43 rfl) (Dt 9 rfl rfl (Q0 (K2 Z0 Z1)) (Rb (Iv (L.length : Nat)) (Iv 1) (Iv ((L.length : Nat) - 1)) rfl rfl eqg_int (bin_sub (by omega) (by omega))) (Dt 10 rfl rfl (Q0 (K2 Z0 Z1)) (rd_tokAddr (j := L.length - 1) rfl rfl (by omega) (by omega)) (Dt 11 rfl rfl (Q0 (K2 Z0 Z1)) (rd_tok (L := L) (j := L.length - 1) rfl Z1 hu2) (WD_ef0 12 (by kernel_rfl) rfl rfl rfl (ef_store (b := b1) (o := 0) (v := .agg #[Iv u2.kind, Tx u2.text, Iv u2.pos, Iv u2.en]) (vs := [Iv u2.kind, Tx u2.text, Iv u2.pos, Iv u2.en]) sizeOf47 rfl rfl rfl rfl rfl Z1 (.put (.put (.put (.put .done))))) (late_vac (i := 12) (by kernel_rfl) (by decide)) ?_)))))))))))))
   refine WD_done (by kernel_rfl) ?_ _
   refine At_then (WC_ret ?_)
   obtain rfl : V = u2 := by exact closed_end hinv hV hje hu2
   exact At_retC results190 isAgg47 sizeOf47 rfl Z0 rfl (fin_valO hr rfl hp (K2 Z1 Z1) D1)
 refine WC_true rfl (WC_skip (At_then (WC_seq (WC_block (Sr ?_)))))
 have hj : j < L.length := by simpa using hb2
 obtain ⟨u, hu⟩ : ∃ u, L[j]? = some u := ⟨L[j], by simp [hj]⟩
 have htb := turn_bound u
 refine Mv (Iv n) (Mv (ptr pb) (Nc pb 0 (Fa pb 0 fa115_0 (Lo pb 0 (Sl tb L.length cap) isAgg43 Z0 rfl (Mv (Iv j) (WL_rd (rd_tokAddr (j := j) rfl rfl (rfl) (by omega)) (WL_rd (rd_tok (L := L) (j := j) rfl Z2 hu) (WL_callQ (Δ := []) (v := Iv (turnT u)) call81 rfl (c_turn u) .nil (Bo (Iv n) (Iv (turnT u)) (Iv (n + (turnT u))) eqg_int (bin_add (by omega) (by omega)) (Av (Iv (n + (turnT u))) (Ny (Mv (Iv (n + (turnT u))) (Bo (Iv (n + (turnT u))) (Iv 0) (.bool ((n + (turnT u)) == 0)) eqg_int (binOp_eql _ _ _ _) (Nt ?_))))))))))))))
 cases hz : ((n + (turnT u)) == 0)
 · refine WC_false rfl (WC_skip (At_blockN (At_then (WC_region (Mv (Iv j) (Bo (Iv j) (Iv 1) (Iv (((j : Nat) : Int) + 1)) eqg_int (bin_add (by omega) (by omega)) (Av (Iv (((j : Nat) : Int) + 1)) (WL_nil ?_))))))))
   refine At_againF (j + 1, n + turnT u) (closedInv_next hinv hu (by simpa using hz)) ⟨rfl, rfl, rfl, ?_, trivial⟩ (E3 Z0 Z0 Z0) (by show L.length - (j + 1) < L.length - j; omega)
   exact congrArg (Value.int .i64) (show ((j : Nat) : Int) + 1 = ((j + 1 : Nat) : Int) by omega)
 refine WC_true rfl (WC_seq ?_)
 by_cases hlast : j + 1 ≤ L.length - 1
 · obtain ⟨u2, hu2⟩ : ∃ u2, L[j + 1]? = some u2 := ⟨L[j + 1], by simp <;> omega⟩
   refine WC_draw [15] [Cl pb 115 [Sl tb L.length cap, Iv (i : Nat), Iv l.kind, Tx l.text, Iv l.pos, Iv l.en, .bool s], TB tb L] mixed (Dt 0 rfl rfl (Q0 (K2 Z0 Z1)) (Rm (ptr pb) rfl) (Dt 1 rfl rfl (Q0 (K2 Z0 Z1)) (Rn pb 0 rfl) (Dt 2 rfl rfl (Q0 (K2 Z0 Z1)) (Rf pb 0 fa115_0 rfl) (Dt 3 rfl rfl (Q0 (K2 Z0 Z1)) (Rl pb 0 (Sl tb L.length cap) isAgg43 rfl Z0 rfl) (Dt 4 rfl rfl (Q0 (K2 Z0 Z1)) (Rm (Iv j) rfl) (Dt 5 rfl rfl (Q0 (K2 Z0 Z1)) (Rb (Iv j) (Iv 1) (Iv (((j : Nat) : Int) + 1)) rfl rfl eqg_int (bin_add (by omega) (by omega))) (Dt 6 rfl rfl (Q0 (K2 Z0 Z1)) (Rm (ptr pb) rfl) (Dt 7 rfl rfl (Q0 (K2 Z0 Z1)) (Rn pb 0 rfl) (Dt 8 rfl rfl (Q0 (K2 Z0 Z1)) (Rf pb 0 fa115_0 rfl) (Dt 9 rfl rfl (Q0 (K2 Z0 Z1)) (Rl pb 0 (Sl tb L.length cap) isAgg43 rfl Z0 rfl) (Dt 10 rfl rfl (Q0 (K2 Z0 Z1)) (rd_lenS (a := (some ⟨tb, 0, none⟩)) (k := L.length) runUnderlying43 rfl) (Dt 11 rfl rfl (Q0 (K2 Z0 Z1)) (Rb (Iv (L.length : Nat)) (Iv 1) (Iv ((L.length : Nat) - 1)) rfl rfl eqg_int (bin_sub (by omega) (by omega))) (Dt 12 rfl rfl (Q0 (K2 Z0 Z1)) (rd_min1 rfl rfl (by omega)) (Dt 13 rfl rfl (Q0 (K2 Z0 Z1)) (rd_tokAddr (j := j + 1) rfl rfl (by omega) (by omega)) (Dt 14 rfl rfl (Q0 (K2 Z0 Z1)) (rd_tok (L := L) (j := j + 1) rfl Z1 hu2) (WD_ef0 15 (by kernel_rfl) rfl rfl rfl (ef_store (b := b1) (o := 0) (v := .agg #[Iv u2.kind, Tx u2.text, Iv u2.pos, Iv u2.en]) (vs := [Iv u2.kind, Tx u2.text, Iv u2.pos, Iv u2.en]) sizeOf47 rfl rfl rfl rfl rfl Z1 (.put (.put (.put (.put .done))))) (late_vac (i := 15) (by kernel_rfl) (by decide)) ?_))))))))))))))))
   refine WD_done (by kernel_rfl) ?_ _
   refine At_then (WC_ret (At_blockR (At_thenR (At_loopR (At_blockR (At_thenR ?_))))))
   obtain rfl : V = u2 := by exact closed_next hinv hV hu (by simpa using hz) (.inl hu2)
   exact At_retC results190 isAgg47 sizeOf47 rfl Z0 rfl (fin_valO hr rfl hp (K2 Z1 Z1) D1)
 obtain ⟨u2, hu2⟩ : ∃ u2, L[L.length - 1]? = some u2 := ⟨L[L.length - 1]'(by omega), by simp <;> omega⟩
 refine WC_draw [15] [Cl pb 115 [Sl tb L.length cap, Iv (i : Nat), Iv l.kind, Tx l.text, Iv l.pos, Iv l.en, .bool s], TB tb L] mixed (Dt 0 rfl rfl (Q0 (K2 Z0 Z1)) (Rm (ptr pb) rfl) (Dt 1 rfl rfl (Q0 (K2 Z0 Z1)) (Rn pb 0 rfl) (Dt 2 rfl rfl (Q0 (K2 Z0 Z1)) (Rf pb 0 fa115_0 rfl) (Dt 3 rfl rfl (Q0 (K2 Z0 Z1)) (Rl pb 0 (Sl tb L.length cap) isAgg43 rfl Z0 rfl) (Dt 4 rfl rfl (Q0 (K2 Z0 Z1)) (Rm (Iv j) rfl) (Dt 5 rfl rfl (Q0 (K2 Z0 Z1)) (Rb (Iv j) (Iv 1) (Iv (((j : Nat) : Int) + 1)) rfl rfl eqg_int (bin_add (by omega) (by omega))) (Dt 6 rfl rfl (Q0 (K2 Z0 Z1)) (Rm (ptr pb) rfl) (Dt 7 rfl rfl (Q0 (K2 Z0 Z1)) (Rn pb 0 rfl) (Dt 8 rfl rfl (Q0 (K2 Z0 Z1)) (Rf pb 0 fa115_0 rfl) (Dt 9 rfl rfl (Q0 (K2 Z0 Z1)) (Rl pb 0 (Sl tb L.length cap) isAgg43 rfl Z0 rfl) (Dt 10 rfl rfl (Q0 (K2 Z0 Z1)) (rd_lenS (a := (some ⟨tb, 0, none⟩)) (k := L.length) runUnderlying43 rfl) (Dt 11 rfl rfl (Q0 (K2 Z0 Z1)) (Rb (Iv (L.length : Nat)) (Iv 1) (Iv ((L.length : Nat) - 1)) rfl rfl eqg_int (bin_sub (by omega) (by omega))) (Dt 12 rfl rfl (Q0 (K2 Z0 Z1)) (rd_min2 rfl rfl (by omega)) (Dt 13 rfl rfl (Q0 (K2 Z0 Z1)) (rd_tokAddr (j := L.length - 1) rfl rfl (by omega) (by omega)) (Dt 14 rfl rfl (Q0 (K2 Z0 Z1)) (rd_tok (L := L) (j := L.length - 1) rfl Z1 hu2) (WD_ef0 15 (by kernel_rfl) rfl rfl rfl (ef_store (b := b1) (o := 0) (v := .agg #[Iv u2.kind, Tx u2.text, Iv u2.pos, Iv u2.en]) (vs := [Iv u2.kind, Tx u2.text, Iv u2.pos, Iv u2.en]) sizeOf47 rfl rfl rfl rfl rfl Z1 (.put (.put (.put (.put .done))))) (late_vac (i := 15) (by kernel_rfl) (by decide)) ?_))))))))))))))))
 refine WD_done (by kernel_rfl) ?_ _
 refine At_then (WC_ret (At_blockR (At_thenR (At_loopR (At_blockR (At_thenR ?_))))))
 obtain rfl : V = u2 := by exact closed_next hinv hV hu (by simpa using hz) (.inr ⟨by omega, hu2⟩)
 exact At_retC results190 isAgg47 sizeOf47 rfl Z0 rfl (fin_valO hr rfl hp (K2 Z1 Z1) D1)
theorem c_arrow : ConM 141 [ptr pb] pb tb L cap [] arrowM (resV boVal) := by
 intro ts r H F
 show ∀ w, Sat (PO pb tb L cap ts :: TB tb L :: F) w → _
 replace H := bpureH H
 unfold arrowM at H
 try simp only [nr] at H
 refine calls_of_WC (fn := f141) func141 rfl rfl (Sr (Av (.bool false) (Nt (WC_seq (WC_block (Sr (Mv (ptr pb) (Cv call85 (c_now) H (K2 Z0 Z0) (.tail E0) fun t1 ts2 H => WL_rd (rd_field (u := .agg #[Iv t1.kind, Tx t1.text, Iv t1.pos, Iv t1.en]) (v := Iv t1.kind) rfl (fv47_0 _ _ _ _ )) (Bo (Iv t1.kind) (Iv 1) (.bool (t1.kind == 1)) eqg_int (binOp_eql _ _ _ _) (Av (.bool (t1.kind == 1)) (Nt ?_)))))))))))
 cases hb4 : (t1.kind == 1)
 · try simp only [nr, hb4] at H
   refine WC_false rfl (Sr (Mv (ptr pb) (Cv call132 (c_is [40]) H (K2 Z0 Z0) (.tail E0) fun b5 ts6 H => Av (.bool b5) (Nt ?_))))
   cases hb8 : (b5)
   · try simp only [nr, hb8] at H
     refine WC_false rfl (WC_skip (At_blockN (At_then (Sr (Mv (ptr pb) (Cv call132 (c_is [60]) H (K2 Z0 Z0) (.tail E0) fun b9 ts10 H => Av (.bool b9) (Nr ?_)))))))
     try simp only [nr] at H
     exact At_ret1 results141 (fin_val H rfl (K2 Z0 Z0) E0)
   try simp only [nr, hb8] at H
   refine Ts (Mv (ptr pb) (Cv call190 (c_closed) H (K2 Z0 Z0) (.tail E0) fun t12 ts13 H => WL_callQ (Δ := []) (v := .bool (saysB t12 [61, 62])) call176 rfl (c_says t12 [61, 62]) .nil (Av (.bool (saysB t12 [61, 62])) (Nr (At_blockR (At_thenR ?_))))))
   try simp only [nr] at H
   exact At_ret1 results141 (fin_val H rfl (K2 Z0 Z0) E0)
 try simp only [nr, hb4] at H
 refine Ts (Mv (ptr pb) (Cv call177 (c_then1) H (K2 Z0 Z0) (.tail E0) fun t15 ts16 H => WL_callQ (Δ := []) (v := .bool (saysB t15 [61, 62])) call176 rfl (c_says t15 [61, 62]) .nil (Av (.bool (saysB t15 [61, 62])) (Nr (At_blockR (At_thenR ?_))))))
 try simp only [nr] at H
 exact At_ret1 results141 (fin_val H rfl (K2 Z0 Z0) E0)
end
end Go.Proofs

namespace Go.Proofs
open Go.Px Tryz
section
variable {pb tb cap K : Nat} {L : List Tk} {g : NT → M PT}
def numInv (s : Bs) (i : Nat) (v : Int) : Prop := i ≤ s.length ∧ v = numOf (s.take i) ∧ 0 ≤ v ∧ v < 10 ^ i
theorem numInv_first {s : Bs} : numInv s 0 0 := ⟨Nat.zero_le _, by simp [numOf], by omega, by decide⟩
theorem numInv_next {s : Bs} {i : Nat} {v : Int} {u : UInt8} (hdig : ∀ d ∈ s, 48 ≤ d.toNat ∧ d.toNat ≤ 57) (hlen : s.length < 19) (h : numInv s i v) (hu : s[i]? = some u) : numInv s (i + 1) (v * 10 + (((u.toNat : Nat) : Int) - 48)) := by
 obtain ⟨h1, h2, h3, h4⟩ := h
 obtain ⟨h5, h6⟩ := List.getElem?_eq_some_iff.1 hu
 have hd := hdig u (List.mem_of_getElem? hu)
 refine ⟨by omega, ?_, by omega, ?_⟩
 · rw [List.take_add_one, hu]
   simp [numOf, List.foldl_append, h2]
 rw [Int.pow_succ]; omega
theorem numInv_bound {s : Bs} {i : Nat} {v : Int} (hlen : s.length < 19) (h : numInv s i v) (hi : i < s.length) : 0 ≤ v ∧ v < 100000000000000000 := by
 obtain ⟨h1, h2, h3, h4⟩ := h
 refine ⟨h3, Int.lt_of_lt_of_le h4 ?_⟩
 have : (10 : Nat) ^ i ≤ 10 ^ 17 := Nat.pow_le_pow_right (by omega) (by omega)
 have h : ((10 ^ i : Nat) : Int) ≤ ((10 ^ 17 : Nat) : Int) := by omega
 simpa using h
theorem numInv_end {s : Bs} {i : Nat} {v : Int} (h : numInv s i v) (hi : ¬ i < s.length) : v = numOf s := by
 obtain ⟨h1, h2, h3, h4⟩ := h
 rw [h2, List.take_of_length_le (by omega)]
theorem c_atoi0 (c : UInt8) (tl : Bs) (hdig : ∀ d ∈ c :: tl, 48 ≤ d.toNat ∧ d.toNat ≤ 57) (hlen : (c :: tl).length < 19) : ∀ F w, Sat ([] ++ F) w → Calls prog 260 [Tx (c :: tl)].toArray w fun e w' => e = .returned (.tuple #[Iv (numOf (c :: tl)), .nilIface]) ∧ Sat ([] ++ F) w' := by
 have hc0 := hdig c (List.mem_cons_self ..)
 intro F
 refine calls_of_WC (fn := f260) func260 rfl rfl (Sr (Av (Iv 0) (Av .nilIface (Ny (Mv (Tx (c :: tl)) (WL_rd (rd_lenBs (s := (c :: tl)) runUnderlying9 rfl) (Av (Iv (((c :: tl).length : Nat) : Int)) (Nz (Mv (.bool false) (Pa false 13 (Pa false 13 (Pa false 13 (WL_passU (e := 16) rfl rfl (WL_passU (e := 16) rfl rfl (Pa false 13 (Pk false (Mv (.bool false) (Ta false 21 (Mv (.bool true) (Ta true 22 (Mv (Iv (((c :: tl).length : Nat) : Int)) (Ta true 22 (Bo (Iv 0) (Iv (((c :: tl).length : Nat) : Int)) (.bool true) eqg_int (by rw [binOp_lss]; rw [show decide ((0 : Int) < (((c :: tl).length : Nat) : Int)) = true from by simp <;> omega]) (Ta true 22 (Mv (.bool true) (Ta true 25 (Mv (Iv (((c :: tl).length : Nat) : Int)) (Ta true 25 (Bo (Iv (((c :: tl).length : Nat) : Int)) (Iv 19) (.bool true) eqg_int (by rw [binOp_lss]; rw [show decide ((((c :: tl).length : Nat) : Int) < 19) = true from by simp only [decide_eq_true_eq]; omega]) (Ta true 22 (Pk true (Ta false 21 (Pk true (Pk false (Nt (Ts (Mv (Tx (c :: tl)) (Av (Tx (c :: tl)) (Nz ?_)))))))))))))))))))))))))))))))))))))))
 refine Mv (Tx (c :: tl)) (WL_rd (rd_indexBs (s := (c :: tl)) (j := 0) (c := c) runUnderlying9 rfl rfl (rfl) (rfl)) (Bo (.int .u8 c.toNat) (.int .u8 45) (.bool false) eqg_int (by rw [binOp_eql]; rw [show (((c.toNat : Nat) : Int) == 45) = false from by simp only [beq_eq_false_iff_ne, ne_eq]; omega]) (Mv (.bool false) (Ta false 35 (Mv (Tx (c :: tl)) (Ta false 35 (WL_rd (rd_indexBs (s := (c :: tl)) (j := 0) (c := c) runUnderlying9 rfl rfl (rfl) (rfl)) (Ta false 35 (Bo (.int .u8 c.toNat) (.int .u8 43) (.bool false) eqg_int (by rw [binOp_eql]; rw [show (((c.toNat : Nat) : Int) == 43) = false from by simp only [beq_eq_false_iff_ne, ne_eq]; omega]) (Pk false (Nt (Fx (Av (Iv 0) (Nz (Mv (Tx (c :: tl)) (WL_ef (ef_toBytes (s := (c :: tl)) rfl underlying9 underlying22 underlying5) fun x => WL_rd (rd_lenS (a := (some ⟨x.1, 0, none⟩)) (k := (c :: tl).length) runUnderlying22 rfl) (Mv (Iv 0) (Nt (WC_block ?_)))))))))))))))))))
 obtain ⟨bb, cp⟩ := x
 refine WC_loopF (α := Nat × Int) (fun x => numInv (c :: tl) x.1 x.2) (fun x => [(0, Tx (c :: tl)), (5, Tx (c :: tl)), (6, Iv x.2), (47, Sl bb (c :: tl).length cp), (48, Iv ((((c :: tl).length : Nat)) : Int)), (49, Iv x.1)]) (fun _ => Blk bb (.cells (bytesRow (bs (c :: tl)) cp) 5 ((bytesRow (bs (c :: tl)) cp).size, (bytesRow (bs (c :: tl)) cp).size + 1)) :: F) (fun x => (c :: tl).length - x.1) (0, 0) numInv_first ⟨rfl, rfl, rfl, rfl, rfl, rfl, trivial⟩ E0 ?_
 rintro ⟨i, v⟩ σ hinv
 obtain ⟨hil, hv, hv0, hv1⟩ := id hinv
 simp only at hil hv hv0 hv1
 show WC prog _ _ _ (upds σ [(0, Tx (c :: tl)), (5, Tx (c :: tl)), (6, Iv v), (47, Sl bb (c :: tl).length cp), (48, Iv ((((c :: tl).length : Nat)) : Int)), (49, Iv i)]) _ (Blk bb (.cells (bytesRow (bs (c :: tl)) cp) 5 ((bytesRow (bs (c :: tl)) cp).size, (bytesRow (bs (c :: tl)) cp).size + 1)) :: F)
 refine Sr (Bo (Iv i) (Iv (((c :: tl).length : Nat) : Int)) (.bool (decide (((i : Nat) : Int) < (((c :: tl).length : Nat) : Int)))) eqg_int (binOp_lss _ _ _ _) (Nt (WC_seq ?_)))
 cases hb1 : (decide (((i : Nat) : Int) < (((c :: tl).length : Nat) : Int)))
 · refine WC_false rfl (WC_exit (At_thenX (At_loopX (At_blockX (At_then (Sz (Mv (Tx (c :: tl)) (WL_rd (rd_indexBs (s := (c :: tl)) (j := 0) (c := c) runUnderlying9 rfl rfl (rfl) (rfl)) (Bo (.int .u8 c.toNat) (.int .u8 45) (.bool false) eqg_int (by rw [binOp_eql]; rw [show (((c.toNat : Nat) : Int) == 45) = false from by simp only [beq_eq_false_iff_ne, ne_eq]; omega]) (Nt (Fx (Mv (Iv v) (Av (Iv v) (Av .nilIface (Nr (At_thenR ?_))))))))))))))))
   have hi : ¬ i < (c :: tl).length := by have h9 := hb1; simp only [decide_eq_false_iff_not] at h9; omega
   have hvv : v = numOf (c :: tl) := numInv_end hinv hi
   exact At_ret2 results260 (fun w q => ⟨by show Ending.returned (.tuple #[Iv v, .nilIface]) = _; rw [hvv], q.mono D1⟩)
 refine WC_true rfl (WC_skip (At_then (WC_seq (WC_block (Sr ?_)))))
 have hi : i < (c :: tl).length := by have h9 := hb1; simp only [decide_eq_true_eq] at h9; omega
 obtain ⟨u, hu⟩ : ∃ u, (c :: tl)[i]? = some u := ⟨(c :: tl)[i], by simp [hi]⟩
 obtain ⟨hd1, hd2⟩ := hdig u (List.mem_of_getElem? hu)
 have hvb := numInv_bound hlen hinv hi
 refine WL_rd (rd_idx1 (j := i) runUnderlying22 sizeOf5 rfl rfl rfl (by omega)) (WL_rd (rd_load1 (b := bb) (o := i) isAgg5 rfl Z0 (bytesRow_bs hu)) (Av (.int .u8 u.toNat) (Ny (Mv (.int .u8 u.toNat) (WL_rd (rd_binOp (u := .int .u8 u.toNat) (v := .int .u8 48) rfl rfl eqg_int (bin_sub8 (by omega) (by omega))) (Av (.int .u8 (((u.toNat : Nat) : Int) - 48)) (Nz (Mv (.int .u8 (((u.toNat : Nat) : Int) - 48)) (Bo (.int .u8 (((u.toNat : Nat) : Int) - 48)) (.int .u8 9) (.bool false) eqg_int (by rw [binOp_gtr]; rw [show decide ((((u.toNat : Nat) : Int) - 48) > 9) = false from by simp only [decide_eq_false_iff_not]; omega]) (Nt (Fs (WC_region (Mv (Iv v) (WL_rd (rd_binOp (u := Iv v) (v := Iv 10) rfl rfl eqg_int (bin_mul (by omega) (by omega))) (Mv (.int .u8 (((u.toNat : Nat) : Int) - 48)) (WL_rd (rd_conv8 runUnderlying5 runUnderlying3 rfl (by omega) (by omega)) (Bo (Iv (v * 10)) (Iv (((u.toNat : Nat) : Int) - 48)) (Iv ((v * 10) + (((u.toNat : Nat) : Int) - 48))) eqg_int (bin_add (by omega) (by omega)) (Av (Iv ((v * 10) + (((u.toNat : Nat) : Int) - 48))) (WL_nil (At_blockN (At_then (WC_region (Bo (Iv i) (Iv 1) (Iv (((i : Nat) : Int) + 1)) eqg_int (bin_add (by omega) (by omega)) (Mv (Iv (((i : Nat) : Int) + 1)) (WL_nil ?_)))))))))))))))))))))))))
 refine At_againF (i + 1, v * 10 + (((u.toNat : Nat) : Int) - 48)) (numInv_next hdig hlen hinv hu) ⟨rfl, rfl, rfl, rfl, rfl, ?_, trivial⟩ E0 (by show (c :: tl).length - (i + 1) < (c :: tl).length - i; omega)
 exact congrArg (Value.int .i64) (show ((i : Nat) : Int) + 1 = ((i + 1 : Nat) : Int) by omega)
theorem c_atoi (c : UInt8) (tl : Bs) (hdig : ∀ d ∈ c :: tl, 48 ≤ d.toNat ∧ d.toNat ≤ 57) (hlen : (c :: tl).length < 19) : ∀ F w, Sat ([] ++ F) w → Calls prog 245 [Tx (c :: tl)].toArray w fun e w' => e = .returned (.tuple #[Iv (numOf (c :: tl)), .nilIface]) ∧ Sat ([] ++ F) w' := by
 intro F
 refine calls_of_WC (fn := f245) func245 rfl rfl (Sr (Av (Iv 0) (Av .nilIface (Ny (Mv (Tx (c :: tl)) (WL_callQ (Δ := []) (v := .tuple #[Iv (numOf (c :: tl)), .nilIface]) call260 rfl (c_atoi0 c tl hdig hlen) .nil (Mv (.tuple #[Iv (numOf (c :: tl)), .nilIface]) (Xt (Iv (numOf (c :: tl))) (Xt .nilIface (Av (Iv (numOf (c :: tl))) (Av .nilIface (Nz (Mv .nilIface (WL_rd (rd_neNN runUnderlying199 rfl) (Nt (Fx (Mv (Iv (numOf (c :: tl))) (Av (Iv (numOf (c :: tl))) (Av .nilIface (Nr ?_))))))))))))))))))))
 exact At_ret2 results245 (fun w q => ⟨rfl, q.mono E0⟩)
theorem c_number (c : UInt8) (tl : Bs) (hdig : ∀ d ∈ c :: tl, 48 ≤ d.toNat ∧ d.toNat ≤ 57) (hlen : (c :: tl).length < 19) : ∀ F w, Sat ([] ++ F) w → Calls prog 226 [Tx (c :: tl)].toArray w fun e w' => e = .returned (Iv (numOf (c :: tl))) ∧ Sat ([] ++ F) w' := by
 intro F
 refine calls_of_WC (fn := f226) func226 rfl rfl (Sr (Av (Iv 0) (Ny (Mv (Tx (c :: tl)) (WL_callQ (Δ := []) (v := .tuple #[Iv (numOf (c :: tl)), .nilIface]) call245 rfl (c_atoi c tl hdig hlen) .nil (Mv (.tuple #[Iv (numOf (c :: tl)), .nilIface]) (Xt (Iv (numOf (c :: tl))) (Xt .nilIface (Av (Iv (numOf (c :: tl))) (Av .nilIface (Ny (Mv (Iv (numOf (c :: tl))) (Av (Iv (numOf (c :: tl))) (Nr ?_))))))))))))))
 exact At_ret1 results226 (fun w q => ⟨rfl, q.mono E0⟩)
theorem c_numberT {t : Tk} (h : okTk t) (hk : t.kind = 3) : ∀ F w, Sat ([] ++ F) w → Calls prog 226 [Tx t.text].toArray w fun e w' => e = .returned (Iv (numOf t.text)) ∧ Sat ([] ++ F) w' := by
 obtain ⟨h1, h2, h3⟩ := h.2.1 hk
 obtain ⟨k, x, p, e⟩ := t
 cases x with
 | nil => exact absurd rfl h1
 | cons c tl => exact c_number c tl h2 h3
theorem num_bound {t : Tk} (h : okTk t) (hk : t.kind = 3) : 0 ≤ numOf t.text ∧ numOf t.text < 1000000000000000000 := by
 obtain ⟨h1, h2, h3⟩ := h.2.1 hk
 have key : ∀ i, i ≤ t.text.length → ∃ v, numInv t.text i v := fun i => by
  induction i with
  | zero => intro _; exact ⟨0, numInv_first⟩
  | succ i ih =>
   intro hi
   obtain ⟨v, hv⟩ := ih (by omega)
   have hu : t.text[i]? = some (t.text[i]'(by omega)) := List.getElem?_eq_getElem (by omega)
   exact ⟨_, numInv_next h2 h3 hv hu⟩
 obtain ⟨v, hv⟩ := key t.text.length (Nat.le_refl _)
 have e := numInv_end hv (by omega)
 obtain ⟨_, _, h4, h5⟩ := hv
 rw [← e]
 refine ⟨h4, Int.lt_of_lt_of_le h5 ?_⟩
 have : (10 : Nat) ^ t.text.length ≤ 10 ^ 18 := Nat.pow_le_pow_right (by omega) (by omega)
 have h : ((10 ^ t.text.length : Nat) : Int) ≤ ((10 ^ 18 : Nat) : Int) := by omega
 simpa using h
theorem c_signs0 : ∀ F w, Sat ([] ++ F) w → Calls prog 223 [Iv 0].toArray w fun e w' => ∃ b, e = .returned (Sl b 1 1) ∧ Sat (Cl b 9 [Tx [124, 124]] :: F) w' := by
 intro F
 refine calls_of_WC (fn := f223) func223 rfl rfl (Sr (Av (.slice none 0 0) (Ny (Bl 9 [Tx [124, 124]] (bs40_1 _ rfl ) fun b1 => Bl 9 [Tx [38, 38]] (bs40_1 _ rfl ) fun b2 => Bl 9 [Tx [124]] (bs40_1 _ rfl ) fun b3 => Bl 9 [Tx [94]] (bs40_1 _ rfl ) fun b4 => Bl 9 [Tx [38]] (bs40_1 _ rfl ) fun b5 => Bl 9 [Tx [61, 61, 61], Tx [33, 61, 61]] (bs40_2 _ _ rfl rfl ) fun b6 => Bl 9 [Tx [60], Tx [60, 61], Tx [62], Tx [62, 61], Tx [105, 110], Tx [97, 115]] (bs40_6 _ _ _ _ _ _ rfl rfl rfl rfl rfl rfl ) fun b7 => Bl 9 [Tx [60, 60], Tx [62, 62], Tx [62, 62, 62]] (bs40_3 _ _ _ rfl rfl rfl ) fun b8 => Bl 9 [Tx [43], Tx [45]] (bs40_2 _ _ rfl rfl ) fun b9 => Bl 9 [Tx [42], Tx [37]] (bs40_2 _ _ rfl rfl ) fun b10 => Bl 40 [Sl b1 1 1, Sl b2 1 1, Sl b3 1 1, Sl b4 1 1, Sl b5 1 1, Sl b6 2 2, Sl b7 6 6, Sl b8 3 3, Sl b9 2 2, Sl b10 2 2] (bs160_10 _ _ _ _ _ _ _ _ _ _ rfl rfl rfl rfl rfl rfl rfl rfl rfl rfl ) fun b11 => Av (Sl b11 10 10) (Nz (Mv (Iv 0) (Mv (Sl b11 10 10) (WL_rd (rd_lenS (a := (some ⟨b11, 0, none⟩)) (k := 10) runUnderlying160 rfl) (Bo (Iv 0) (Iv 10) (.bool false) eqg_int (by rw [binOp_eql]; rfl) (Nt (Fx (Mv (Sl b11 10 10) (Mv (Iv 0) (WL_rd (rd_idx1 (j := 0) runUnderlying160 sizeOf40 rfl rfl rfl (by omega)) (Lo b11 0 (Sl b1 1 1) isAgg40 Z0 rfl (Av (Sl b1 1 1) (Nr ?_)))))))))))))))))
 exact At_ret1 results223 (fun w q => ⟨b1, rfl, q.mono (En (.succ (.succ (.succ (.succ (.succ (.succ Z4)))))) (.dropHead (.dropHead (.dropHead (.dropHead (.dropHead (.dropHead D4)))))))⟩)
theorem c_signs1 : ∀ F w, Sat ([] ++ F) w → Calls prog 223 [Iv 1].toArray w fun e w' => ∃ b, e = .returned (Sl b 1 1) ∧ Sat (Cl b 9 [Tx [38, 38]] :: F) w' := by
 intro F
 refine calls_of_WC (fn := f223) func223 rfl rfl (Sr (Av (.slice none 0 0) (Ny (Bl 9 [Tx [124, 124]] (bs40_1 _ rfl ) fun b1 => Bl 9 [Tx [38, 38]] (bs40_1 _ rfl ) fun b2 => Bl 9 [Tx [124]] (bs40_1 _ rfl ) fun b3 => Bl 9 [Tx [94]] (bs40_1 _ rfl ) fun b4 => Bl 9 [Tx [38]] (bs40_1 _ rfl ) fun b5 => Bl 9 [Tx [61, 61, 61], Tx [33, 61, 61]] (bs40_2 _ _ rfl rfl ) fun b6 => Bl 9 [Tx [60], Tx [60, 61], Tx [62], Tx [62, 61], Tx [105, 110], Tx [97, 115]] (bs40_6 _ _ _ _ _ _ rfl rfl rfl rfl rfl rfl ) fun b7 => Bl 9 [Tx [60, 60], Tx [62, 62], Tx [62, 62, 62]] (bs40_3 _ _ _ rfl rfl rfl ) fun b8 => Bl 9 [Tx [43], Tx [45]] (bs40_2 _ _ rfl rfl ) fun b9 => Bl 9 [Tx [42], Tx [37]] (bs40_2 _ _ rfl rfl ) fun b10 => Bl 40 [Sl b1 1 1, Sl b2 1 1, Sl b3 1 1, Sl b4 1 1, Sl b5 1 1, Sl b6 2 2, Sl b7 6 6, Sl b8 3 3, Sl b9 2 2, Sl b10 2 2] (bs160_10 _ _ _ _ _ _ _ _ _ _ rfl rfl rfl rfl rfl rfl rfl rfl rfl rfl ) fun b11 => Av (Sl b11 10 10) (Nz (Mv (Iv 1) (Mv (Sl b11 10 10) (WL_rd (rd_lenS (a := (some ⟨b11, 0, none⟩)) (k := 10) runUnderlying160 rfl) (Bo (Iv 1) (Iv 10) (.bool false) eqg_int (by rw [binOp_eql]; rfl) (Nt (Fx (Mv (Sl b11 10 10) (Mv (Iv 1) (WL_rd (rd_idx1 (j := 1) runUnderlying160 sizeOf40 rfl rfl rfl (by omega)) (Lo b11 1 (Sl b2 1 1) isAgg40 Z0 rfl (Av (Sl b2 1 1) (Nr ?_)))))))))))))))))
 exact At_ret1 results223 (fun w q => ⟨b2, rfl, q.mono (En (.succ (.succ (.succ (.succ (.succ Z4))))) (.dropHead (.dropHead (.dropHead (.dropHead (.dropHead (.dropHead D4)))))))⟩)
theorem c_signs2 : ∀ F w, Sat ([] ++ F) w → Calls prog 223 [Iv 2].toArray w fun e w' => ∃ b, e = .returned (Sl b 1 1) ∧ Sat (Cl b 9 [Tx [124]] :: F) w' := by
 intro F
 refine calls_of_WC (fn := f223) func223 rfl rfl (Sr (Av (.slice none 0 0) (Ny (Bl 9 [Tx [124, 124]] (bs40_1 _ rfl ) fun b1 => Bl 9 [Tx [38, 38]] (bs40_1 _ rfl ) fun b2 => Bl 9 [Tx [124]] (bs40_1 _ rfl ) fun b3 => Bl 9 [Tx [94]] (bs40_1 _ rfl ) fun b4 => Bl 9 [Tx [38]] (bs40_1 _ rfl ) fun b5 => Bl 9 [Tx [61, 61, 61], Tx [33, 61, 61]] (bs40_2 _ _ rfl rfl ) fun b6 => Bl 9 [Tx [60], Tx [60, 61], Tx [62], Tx [62, 61], Tx [105, 110], Tx [97, 115]] (bs40_6 _ _ _ _ _ _ rfl rfl rfl rfl rfl rfl ) fun b7 => Bl 9 [Tx [60, 60], Tx [62, 62], Tx [62, 62, 62]] (bs40_3 _ _ _ rfl rfl rfl ) fun b8 => Bl 9 [Tx [43], Tx [45]] (bs40_2 _ _ rfl rfl ) fun b9 => Bl 9 [Tx [42], Tx [37]] (bs40_2 _ _ rfl rfl ) fun b10 => Bl 40 [Sl b1 1 1, Sl b2 1 1, Sl b3 1 1, Sl b4 1 1, Sl b5 1 1, Sl b6 2 2, Sl b7 6 6, Sl b8 3 3, Sl b9 2 2, Sl b10 2 2] (bs160_10 _ _ _ _ _ _ _ _ _ _ rfl rfl rfl rfl rfl rfl rfl rfl rfl rfl ) fun b11 => Av (Sl b11 10 10) (Nz (Mv (Iv 2) (Mv (Sl b11 10 10) (WL_rd (rd_lenS (a := (some ⟨b11, 0, none⟩)) (k := 10) runUnderlying160 rfl) (Bo (Iv 2) (Iv 10) (.bool false) eqg_int (by rw [binOp_eql]; rfl) (Nt (Fx (Mv (Sl b11 10 10) (Mv (Iv 2) (WL_rd (rd_idx1 (j := 2) runUnderlying160 sizeOf40 rfl rfl rfl (by omega)) (Lo b11 2 (Sl b3 1 1) isAgg40 Z0 rfl (Av (Sl b3 1 1) (Nr ?_)))))))))))))))))
 exact At_ret1 results223 (fun w q => ⟨b3, rfl, q.mono (En (.succ (.succ (.succ (.succ Z4)))) (.dropHead (.dropHead (.dropHead (.dropHead (.dropHead (.dropHead D4)))))))⟩)
theorem c_signs3 : ∀ F w, Sat ([] ++ F) w → Calls prog 223 [Iv 3].toArray w fun e w' => ∃ b, e = .returned (Sl b 1 1) ∧ Sat (Cl b 9 [Tx [94]] :: F) w' := by
 intro F
 refine calls_of_WC (fn := f223) func223 rfl rfl (Sr (Av (.slice none 0 0) (Ny (Bl 9 [Tx [124, 124]] (bs40_1 _ rfl ) fun b1 => Bl 9 [Tx [38, 38]] (bs40_1 _ rfl ) fun b2 => Bl 9 [Tx [124]] (bs40_1 _ rfl ) fun b3 => Bl 9 [Tx [94]] (bs40_1 _ rfl ) fun b4 => Bl 9 [Tx [38]] (bs40_1 _ rfl ) fun b5 => Bl 9 [Tx [61, 61, 61], Tx [33, 61, 61]] (bs40_2 _ _ rfl rfl ) fun b6 => Bl 9 [Tx [60], Tx [60, 61], Tx [62], Tx [62, 61], Tx [105, 110], Tx [97, 115]] (bs40_6 _ _ _ _ _ _ rfl rfl rfl rfl rfl rfl ) fun b7 => Bl 9 [Tx [60, 60], Tx [62, 62], Tx [62, 62, 62]] (bs40_3 _ _ _ rfl rfl rfl ) fun b8 => Bl 9 [Tx [43], Tx [45]] (bs40_2 _ _ rfl rfl ) fun b9 => Bl 9 [Tx [42], Tx [37]] (bs40_2 _ _ rfl rfl ) fun b10 => Bl 40 [Sl b1 1 1, Sl b2 1 1, Sl b3 1 1, Sl b4 1 1, Sl b5 1 1, Sl b6 2 2, Sl b7 6 6, Sl b8 3 3, Sl b9 2 2, Sl b10 2 2] (bs160_10 _ _ _ _ _ _ _ _ _ _ rfl rfl rfl rfl rfl rfl rfl rfl rfl rfl ) fun b11 => Av (Sl b11 10 10) (Nz (Mv (Iv 3) (Mv (Sl b11 10 10) (WL_rd (rd_lenS (a := (some ⟨b11, 0, none⟩)) (k := 10) runUnderlying160 rfl) (Bo (Iv 3) (Iv 10) (.bool false) eqg_int (by rw [binOp_eql]; rfl) (Nt (Fx (Mv (Sl b11 10 10) (Mv (Iv 3) (WL_rd (rd_idx1 (j := 3) runUnderlying160 sizeOf40 rfl rfl rfl (by omega)) (Lo b11 3 (Sl b4 1 1) isAgg40 Z0 rfl (Av (Sl b4 1 1) (Nr ?_)))))))))))))))))
 exact At_ret1 results223 (fun w q => ⟨b4, rfl, q.mono (En (.succ (.succ (.succ Z4))) (.dropHead (.dropHead (.dropHead (.dropHead (.dropHead (.dropHead D4)))))))⟩)
theorem c_signs4 : ∀ F w, Sat ([] ++ F) w → Calls prog 223 [Iv 4].toArray w fun e w' => ∃ b, e = .returned (Sl b 1 1) ∧ Sat (Cl b 9 [Tx [38]] :: F) w' := by
 intro F
 refine calls_of_WC (fn := f223) func223 rfl rfl (Sr (Av (.slice none 0 0) (Ny (Bl 9 [Tx [124, 124]] (bs40_1 _ rfl ) fun b1 => Bl 9 [Tx [38, 38]] (bs40_1 _ rfl ) fun b2 => Bl 9 [Tx [124]] (bs40_1 _ rfl ) fun b3 => Bl 9 [Tx [94]] (bs40_1 _ rfl ) fun b4 => Bl 9 [Tx [38]] (bs40_1 _ rfl ) fun b5 => Bl 9 [Tx [61, 61, 61], Tx [33, 61, 61]] (bs40_2 _ _ rfl rfl ) fun b6 => Bl 9 [Tx [60], Tx [60, 61], Tx [62], Tx [62, 61], Tx [105, 110], Tx [97, 115]] (bs40_6 _ _ _ _ _ _ rfl rfl rfl rfl rfl rfl ) fun b7 => Bl 9 [Tx [60, 60], Tx [62, 62], Tx [62, 62, 62]] (bs40_3 _ _ _ rfl rfl rfl ) fun b8 => Bl 9 [Tx [43], Tx [45]] (bs40_2 _ _ rfl rfl ) fun b9 => Bl 9 [Tx [42], Tx [37]] (bs40_2 _ _ rfl rfl ) fun b10 => Bl 40 [Sl b1 1 1, Sl b2 1 1, Sl b3 1 1, Sl b4 1 1, Sl b5 1 1, Sl b6 2 2, Sl b7 6 6, Sl b8 3 3, Sl b9 2 2, Sl b10 2 2] (bs160_10 _ _ _ _ _ _ _ _ _ _ rfl rfl rfl rfl rfl rfl rfl rfl rfl rfl ) fun b11 => Av (Sl b11 10 10) (Nz (Mv (Iv 4) (Mv (Sl b11 10 10) (WL_rd (rd_lenS (a := (some ⟨b11, 0, none⟩)) (k := 10) runUnderlying160 rfl) (Bo (Iv 4) (Iv 10) (.bool false) eqg_int (by rw [binOp_eql]; rfl) (Nt (Fx (Mv (Sl b11 10 10) (Mv (Iv 4) (WL_rd (rd_idx1 (j := 4) runUnderlying160 sizeOf40 rfl rfl rfl (by omega)) (Lo b11 4 (Sl b5 1 1) isAgg40 Z0 rfl (Av (Sl b5 1 1) (Nr ?_)))))))))))))))))
 exact At_ret1 results223 (fun w q => ⟨b5, rfl, q.mono (En (.succ (.succ Z4)) (.dropHead (.dropHead (.dropHead (.dropHead (.dropHead (.dropHead D4)))))))⟩)
theorem c_signs5 : ∀ F w, Sat ([] ++ F) w → Calls prog 223 [Iv 5].toArray w fun e w' => ∃ b, e = .returned (Sl b 2 2) ∧ Sat (Cl b 9 [Tx [61, 61, 61], Tx [33, 61, 61]] :: F) w' := by
 intro F
 refine calls_of_WC (fn := f223) func223 rfl rfl (Sr (Av (.slice none 0 0) (Ny (Bl 9 [Tx [124, 124]] (bs40_1 _ rfl ) fun b1 => Bl 9 [Tx [38, 38]] (bs40_1 _ rfl ) fun b2 => Bl 9 [Tx [124]] (bs40_1 _ rfl ) fun b3 => Bl 9 [Tx [94]] (bs40_1 _ rfl ) fun b4 => Bl 9 [Tx [38]] (bs40_1 _ rfl ) fun b5 => Bl 9 [Tx [61, 61, 61], Tx [33, 61, 61]] (bs40_2 _ _ rfl rfl ) fun b6 => Bl 9 [Tx [60], Tx [60, 61], Tx [62], Tx [62, 61], Tx [105, 110], Tx [97, 115]] (bs40_6 _ _ _ _ _ _ rfl rfl rfl rfl rfl rfl ) fun b7 => Bl 9 [Tx [60, 60], Tx [62, 62], Tx [62, 62, 62]] (bs40_3 _ _ _ rfl rfl rfl ) fun b8 => Bl 9 [Tx [43], Tx [45]] (bs40_2 _ _ rfl rfl ) fun b9 => Bl 9 [Tx [42], Tx [37]] (bs40_2 _ _ rfl rfl ) fun b10 => Bl 40 [Sl b1 1 1, Sl b2 1 1, Sl b3 1 1, Sl b4 1 1, Sl b5 1 1, Sl b6 2 2, Sl b7 6 6, Sl b8 3 3, Sl b9 2 2, Sl b10 2 2] (bs160_10 _ _ _ _ _ _ _ _ _ _ rfl rfl rfl rfl rfl rfl rfl rfl rfl rfl ) fun b11 => Av (Sl b11 10 10) (Nz (Mv (Iv 5) (Mv (Sl b11 10 10) (WL_rd (rd_lenS (a := (some ⟨b11, 0, none⟩)) (k := 10) runUnderlying160 rfl) (Bo (Iv 5) (Iv 10) (.bool false) eqg_int (by rw [binOp_eql]; rfl) (Nt (Fx (Mv (Sl b11 10 10) (Mv (Iv 5) (WL_rd (rd_idx1 (j := 5) runUnderlying160 sizeOf40 rfl rfl rfl (by omega)) (Lo b11 5 (Sl b6 2 2) isAgg40 Z0 rfl (Av (Sl b6 2 2) (Nr ?_)))))))))))))))))
 exact At_ret1 results223 (fun w q => ⟨b6, rfl, q.mono (En (.succ Z4) (.dropHead (.dropHead (.dropHead (.dropHead (.dropHead (.dropHead D4)))))))⟩)
theorem c_signs6 : ∀ F w, Sat ([] ++ F) w → Calls prog 223 [Iv 6].toArray w fun e w' => ∃ b, e = .returned (Sl b 6 6) ∧ Sat (Cl b 9 [Tx [60], Tx [60, 61], Tx [62], Tx [62, 61], Tx [105, 110], Tx [97, 115]] :: F) w' := by
 intro F
 refine calls_of_WC (fn := f223) func223 rfl rfl (Sr (Av (.slice none 0 0) (Ny (Bl 9 [Tx [124, 124]] (bs40_1 _ rfl ) fun b1 => Bl 9 [Tx [38, 38]] (bs40_1 _ rfl ) fun b2 => Bl 9 [Tx [124]] (bs40_1 _ rfl ) fun b3 => Bl 9 [Tx [94]] (bs40_1 _ rfl ) fun b4 => Bl 9 [Tx [38]] (bs40_1 _ rfl ) fun b5 => Bl 9 [Tx [61, 61, 61], Tx [33, 61, 61]] (bs40_2 _ _ rfl rfl ) fun b6 => Bl 9 [Tx [60], Tx [60, 61], Tx [62], Tx [62, 61], Tx [105, 110], Tx [97, 115]] (bs40_6 _ _ _ _ _ _ rfl rfl rfl rfl rfl rfl ) fun b7 => Bl 9 [Tx [60, 60], Tx [62, 62], Tx [62, 62, 62]] (bs40_3 _ _ _ rfl rfl rfl ) fun b8 => Bl 9 [Tx [43], Tx [45]] (bs40_2 _ _ rfl rfl ) fun b9 => Bl 9 [Tx [42], Tx [37]] (bs40_2 _ _ rfl rfl ) fun b10 => Bl 40 [Sl b1 1 1, Sl b2 1 1, Sl b3 1 1, Sl b4 1 1, Sl b5 1 1, Sl b6 2 2, Sl b7 6 6, Sl b8 3 3, Sl b9 2 2, Sl b10 2 2] (bs160_10 _ _ _ _ _ _ _ _ _ _ rfl rfl rfl rfl rfl rfl rfl rfl rfl rfl ) fun b11 => Av (Sl b11 10 10) (Nz (Mv (Iv 6) (Mv (Sl b11 10 10) (WL_rd (rd_lenS (a := (some ⟨b11, 0, none⟩)) (k := 10) runUnderlying160 rfl) (Bo (Iv 6) (Iv 10) (.bool false) eqg_int (by rw [binOp_eql]; rfl) (Nt (Fx (Mv (Sl b11 10 10) (Mv (Iv 6) (WL_rd (rd_idx1 (j := 6) runUnderlying160 sizeOf40 rfl rfl rfl (by omega)) (Lo b11 6 (Sl b7 6 6) isAgg40 Z0 rfl (Av (Sl b7 6 6) (Nr ?_)))))))))))))))))
 exact At_ret1 results223 (fun w q => ⟨b7, rfl, q.mono (En Z4 (.dropHead (.dropHead (.dropHead (.dropHead (.dropHead (.dropHead D4)))))))⟩)
theorem c_signs7 : ∀ F w, Sat ([] ++ F) w → Calls prog 223 [Iv 7].toArray w fun e w' => ∃ b, e = .returned (Sl b 3 3) ∧ Sat (Cl b 9 [Tx [60, 60], Tx [62, 62], Tx [62, 62, 62]] :: F) w' := by
 intro F
 refine calls_of_WC (fn := f223) func223 rfl rfl (Sr (Av (.slice none 0 0) (Ny (Bl 9 [Tx [124, 124]] (bs40_1 _ rfl ) fun b1 => Bl 9 [Tx [38, 38]] (bs40_1 _ rfl ) fun b2 => Bl 9 [Tx [124]] (bs40_1 _ rfl ) fun b3 => Bl 9 [Tx [94]] (bs40_1 _ rfl ) fun b4 => Bl 9 [Tx [38]] (bs40_1 _ rfl ) fun b5 => Bl 9 [Tx [61, 61, 61], Tx [33, 61, 61]] (bs40_2 _ _ rfl rfl ) fun b6 => Bl 9 [Tx [60], Tx [60, 61], Tx [62], Tx [62, 61], Tx [105, 110], Tx [97, 115]] (bs40_6 _ _ _ _ _ _ rfl rfl rfl rfl rfl rfl ) fun b7 => Bl 9 [Tx [60, 60], Tx [62, 62], Tx [62, 62, 62]] (bs40_3 _ _ _ rfl rfl rfl ) fun b8 => Bl 9 [Tx [43], Tx [45]] (bs40_2 _ _ rfl rfl ) fun b9 => Bl 9 [Tx [42], Tx [37]] (bs40_2 _ _ rfl rfl ) fun b10 => Bl 40 [Sl b1 1 1, Sl b2 1 1, Sl b3 1 1, Sl b4 1 1, Sl b5 1 1, Sl b6 2 2, Sl b7 6 6, Sl b8 3 3, Sl b9 2 2, Sl b10 2 2] (bs160_10 _ _ _ _ _ _ _ _ _ _ rfl rfl rfl rfl rfl rfl rfl rfl rfl rfl ) fun b11 => Av (Sl b11 10 10) (Nz (Mv (Iv 7) (Mv (Sl b11 10 10) (WL_rd (rd_lenS (a := (some ⟨b11, 0, none⟩)) (k := 10) runUnderlying160 rfl) (Bo (Iv 7) (Iv 10) (.bool false) eqg_int (by rw [binOp_eql]; rfl) (Nt (Fx (Mv (Sl b11 10 10) (Mv (Iv 7) (WL_rd (rd_idx1 (j := 7) runUnderlying160 sizeOf40 rfl rfl rfl (by omega)) (Lo b11 7 (Sl b8 3 3) isAgg40 Z0 rfl (Av (Sl b8 3 3) (Nr ?_)))))))))))))))))
 exact At_ret1 results223 (fun w q => ⟨b8, rfl, q.mono (En Z3 (.dropHead (.dropHead (.dropHead (.dropHead (.dropHead (.dropHead D4)))))))⟩)
theorem c_signs8 : ∀ F w, Sat ([] ++ F) w → Calls prog 223 [Iv 8].toArray w fun e w' => ∃ b, e = .returned (Sl b 2 2) ∧ Sat (Cl b 9 [Tx [43], Tx [45]] :: F) w' := by
 intro F
 refine calls_of_WC (fn := f223) func223 rfl rfl (Sr (Av (.slice none 0 0) (Ny (Bl 9 [Tx [124, 124]] (bs40_1 _ rfl ) fun b1 => Bl 9 [Tx [38, 38]] (bs40_1 _ rfl ) fun b2 => Bl 9 [Tx [124]] (bs40_1 _ rfl ) fun b3 => Bl 9 [Tx [94]] (bs40_1 _ rfl ) fun b4 => Bl 9 [Tx [38]] (bs40_1 _ rfl ) fun b5 => Bl 9 [Tx [61, 61, 61], Tx [33, 61, 61]] (bs40_2 _ _ rfl rfl ) fun b6 => Bl 9 [Tx [60], Tx [60, 61], Tx [62], Tx [62, 61], Tx [105, 110], Tx [97, 115]] (bs40_6 _ _ _ _ _ _ rfl rfl rfl rfl rfl rfl ) fun b7 => Bl 9 [Tx [60, 60], Tx [62, 62], Tx [62, 62, 62]] (bs40_3 _ _ _ rfl rfl rfl ) fun b8 => Bl 9 [Tx [43], Tx [45]] (bs40_2 _ _ rfl rfl ) fun b9 => Bl 9 [Tx [42], Tx [37]] (bs40_2 _ _ rfl rfl ) fun b10 => Bl 40 [Sl b1 1 1, Sl b2 1 1, Sl b3 1 1, Sl b4 1 1, Sl b5 1 1, Sl b6 2 2, Sl b7 6 6, Sl b8 3 3, Sl b9 2 2, Sl b10 2 2] (bs160_10 _ _ _ _ _ _ _ _ _ _ rfl rfl rfl rfl rfl rfl rfl rfl rfl rfl ) fun b11 => Av (Sl b11 10 10) (Nz (Mv (Iv 8) (Mv (Sl b11 10 10) (WL_rd (rd_lenS (a := (some ⟨b11, 0, none⟩)) (k := 10) runUnderlying160 rfl) (Bo (Iv 8) (Iv 10) (.bool false) eqg_int (by rw [binOp_eql]; rfl) (Nt (Fx (Mv (Sl b11 10 10) (Mv (Iv 8) (WL_rd (rd_idx1 (j := 8) runUnderlying160 sizeOf40 rfl rfl rfl (by omega)) (Lo b11 8 (Sl b9 2 2) isAgg40 Z0 rfl (Av (Sl b9 2 2) (Nr ?_)))))))))))))))))
 exact At_ret1 results223 (fun w q => ⟨b9, rfl, q.mono (En Z2 (.dropHead (.dropHead (.dropHead (.dropHead (.dropHead (.dropHead D4)))))))⟩)
theorem c_signs9 : ∀ F w, Sat ([] ++ F) w → Calls prog 223 [Iv 9].toArray w fun e w' => ∃ b, e = .returned (Sl b 2 2) ∧ Sat (Cl b 9 [Tx [42], Tx [37]] :: F) w' := by
 intro F
 refine calls_of_WC (fn := f223) func223 rfl rfl (Sr (Av (.slice none 0 0) (Ny (Bl 9 [Tx [124, 124]] (bs40_1 _ rfl ) fun b1 => Bl 9 [Tx [38, 38]] (bs40_1 _ rfl ) fun b2 => Bl 9 [Tx [124]] (bs40_1 _ rfl ) fun b3 => Bl 9 [Tx [94]] (bs40_1 _ rfl ) fun b4 => Bl 9 [Tx [38]] (bs40_1 _ rfl ) fun b5 => Bl 9 [Tx [61, 61, 61], Tx [33, 61, 61]] (bs40_2 _ _ rfl rfl ) fun b6 => Bl 9 [Tx [60], Tx [60, 61], Tx [62], Tx [62, 61], Tx [105, 110], Tx [97, 115]] (bs40_6 _ _ _ _ _ _ rfl rfl rfl rfl rfl rfl ) fun b7 => Bl 9 [Tx [60, 60], Tx [62, 62], Tx [62, 62, 62]] (bs40_3 _ _ _ rfl rfl rfl ) fun b8 => Bl 9 [Tx [43], Tx [45]] (bs40_2 _ _ rfl rfl ) fun b9 => Bl 9 [Tx [42], Tx [37]] (bs40_2 _ _ rfl rfl ) fun b10 => Bl 40 [Sl b1 1 1, Sl b2 1 1, Sl b3 1 1, Sl b4 1 1, Sl b5 1 1, Sl b6 2 2, Sl b7 6 6, Sl b8 3 3, Sl b9 2 2, Sl b10 2 2] (bs160_10 _ _ _ _ _ _ _ _ _ _ rfl rfl rfl rfl rfl rfl rfl rfl rfl rfl ) fun b11 => Av (Sl b11 10 10) (Nz (Mv (Iv 9) (Mv (Sl b11 10 10) (WL_rd (rd_lenS (a := (some ⟨b11, 0, none⟩)) (k := 10) runUnderlying160 rfl) (Bo (Iv 9) (Iv 10) (.bool false) eqg_int (by rw [binOp_eql]; rfl) (Nt (Fx (Mv (Sl b11 10 10) (Mv (Iv 9) (WL_rd (rd_idx1 (j := 9) runUnderlying160 sizeOf40 rfl rfl rfl (by omega)) (Lo b11 9 (Sl b10 2 2) isAgg40 Z0 rfl (Av (Sl b10 2 2) (Nr ?_)))))))))))))))))
 exact At_ret1 results223 (fun w q => ⟨b10, rfl, q.mono (En Z1 (.dropHead (.dropHead (.dropHead (.dropHead (.dropHead (.dropHead D4)))))))⟩)
theorem c_signs10 : ∀ F w, Sat ([] ++ F) w → Calls prog 223 [Iv 10].toArray w fun e w' => e = .returned (.slice none 0 0) ∧ Sat F w' := by
 intro F
 refine calls_of_WC (fn := f223) func223 rfl rfl (Sr (Av (.slice none 0 0) (Ny (Bl 9 [Tx [124, 124]] (bs40_1 _ rfl ) fun b1 => Bl 9 [Tx [38, 38]] (bs40_1 _ rfl ) fun b2 => Bl 9 [Tx [124]] (bs40_1 _ rfl ) fun b3 => Bl 9 [Tx [94]] (bs40_1 _ rfl ) fun b4 => Bl 9 [Tx [38]] (bs40_1 _ rfl ) fun b5 => Bl 9 [Tx [61, 61, 61], Tx [33, 61, 61]] (bs40_2 _ _ rfl rfl ) fun b6 => Bl 9 [Tx [60], Tx [60, 61], Tx [62], Tx [62, 61], Tx [105, 110], Tx [97, 115]] (bs40_6 _ _ _ _ _ _ rfl rfl rfl rfl rfl rfl ) fun b7 => Bl 9 [Tx [60, 60], Tx [62, 62], Tx [62, 62, 62]] (bs40_3 _ _ _ rfl rfl rfl ) fun b8 => Bl 9 [Tx [43], Tx [45]] (bs40_2 _ _ rfl rfl ) fun b9 => Bl 9 [Tx [42], Tx [37]] (bs40_2 _ _ rfl rfl ) fun b10 => Bl 40 [Sl b1 1 1, Sl b2 1 1, Sl b3 1 1, Sl b4 1 1, Sl b5 1 1, Sl b6 2 2, Sl b7 6 6, Sl b8 3 3, Sl b9 2 2, Sl b10 2 2] (bs160_10 _ _ _ _ _ _ _ _ _ _ rfl rfl rfl rfl rfl rfl rfl rfl rfl rfl ) fun b11 => Av (Sl b11 10 10) (Nz (Mv (Iv 10) (Mv (Sl b11 10 10) (WL_rd (rd_lenS (a := (some ⟨b11, 0, none⟩)) (k := 10) runUnderlying160 rfl) (Bo (Iv 10) (Iv 10) (.bool true) eqg_int (by rw [binOp_eql]; rfl) (Nt (Ts (Av (.slice none 0 0) (Nr (At_thenR ?_))))))))))))))
 exact At_ret1 results223 (fun w q => ⟨rfl, q.mono (.dropHead (.dropHead (.dropHead (.dropHead (.dropHead (.dropHead (.dropHead D4)))))))⟩)
theorem c_signs {n : Nat} {l : List Bs} (h : sgn n = some l) : ∀ F w, Sat ([] ++ F) w → Calls prog 223 [Iv n].toArray w fun e w' => ∃ b, e = .returned (Sl b l.length l.length) ∧ Sat (Cl b 9 (l.map fun s => Tx s) :: F) w' := by
 match n, h with
 | 0, h => cases h; exact c_signs0
 | 1, h => cases h; exact c_signs1
 | 2, h => cases h; exact c_signs2
 | 3, h => cases h; exact c_signs3
 | 4, h => cases h; exact c_signs4
 | 5, h => cases h; exact c_signs5
 | 6, h => cases h; exact c_signs6
 | 7, h => cases h; exact c_signs7
 | 8, h => cases h; exact c_signs8
 | 9, h => cases h; exact c_signs9
theorem c_list {f : FuncId} {fs cs : List Value} {Y : HP} {m : M PT} (hK : K ≤ 274877906944) (hC : ∀ args w, (callFunc f args).run prog w = .ok (.enter f args) w) (con : ConM f (fs ++ cs) pb tb L cap [Y] m resN) : ConM 217 [ptr pb, .func (.func f) fs.toArray cs.toArray] pb tb L cap [Y] (listM K m) resN := by
 intro ts r H F
 show ∀ w, Sat (PO pb tb L cap ts :: TB tb L :: Y :: F) w → _
 replace H := bpureH H
 unfold listM at H
 try simp only [nr] at H
 refine calls_of_WC (fn := f217) func217 rfl rfl (Sr (Av (.pointer none) (Ny (Mv (ptr pb) (Cv call85 (c_now) H (K2 Z0 Z0) (.tail (E1 Z0)) fun t1 ts2 H => WL_rd (rd_field (u := .agg #[Iv t1.kind, Tx t1.text, Iv t1.pos, Iv t1.en]) (v := Iv t1.pos) rfl (fv47_2 _ _ _ _ )) (Mv (.func (.func f) fs.toArray cs.toArray) (WL_callVN hC rfl (by first | rfl | simp) (con) H (K3 Z0 Z0 Z0) (fun _ _ h => ⟨rfl, h⟩) rfl (.tail (E1 Z0)) fun x4 ts5 q6 H => Bl 118 [ptr q6] (bs120_1 _ rfl ) fun b7 => WL_made (k := 2) (s := []) (nu := 0) (a := t1.pos) rfl rfl (ent_kd1 (K2 Z0 Z0)) fun q8 => Av (ptr q8) (Nt (WC_seq (WC_block (WC_loopM (G := Nat × List PT) (fun x => x.2.length + 2 * x.1 ≤ 2 * K + 2) (fun x => moreM x.1 m x.2) (fun x => [(0, ptr pb), (1, (.func (.func f) fs.toArray cs.toArray)), (4, .pointer none), (5, ptr q8)]) (fun x ts => TN (PT.node 2 [] 0 t1.pos x.2) q8 :: PO pb tb L cap ts :: TB tb L :: Y :: F) (fun x => x.1) (K, [x4]) H (show [x4].length + 2 * K ≤ 2 * K + 2 by (try simp) <;> omega) ⟨rfl, rfl, rfl, rfl, trivial⟩ (E4 Z0 Z0 Z0 Z0) ?_)))))))))))
 rintro ⟨k, acc9⟩ ts10 σ hpre H
 replace hpre : acc9.length + 2 * k ≤ 2 * K + 2 := hpre
 change (moreM k m acc9 >>= _) _ = _ at H
 rcases k with _ | k
 · exact oofK H
 rw [moreM] at H
 try simp only [nr] at H
 show WC prog _ _ _ (upds σ [(0, ptr pb), (1, (.func (.func f) fs.toArray cs.toArray)), (4, .pointer none), (5, ptr q8)]) _ (TN (PT.node 2 [] 0 t1.pos acc9) q8 :: PO pb tb L cap ts10 :: TB tb L :: Y :: F)
 refine Sz (Mv (ptr pb) (Cv call134 (c_take [44]) H (K2 Z1 Z1) (.tail (En Z1 D1)) fun b11 ts12 H => Nt ?_))
 cases hb14 : (b11)
 · try simp only [nr, hb14] at H
   refine WC_false rfl (WC_exit (At_thenX (At_loopX (At_blockX (At_then (Sr (Mv (ptr q8) (Av (ptr q8) (Nr ?_)))))))))
   try simp only [nr] at H
   exact At_ret1 results217 (fin_node H (K3 Z2 Z0 Z0) (E1 Z0))
 try simp only [nr, hb14] at H
 refine WC_true rfl (WC_skip (At_then (WC_block (WC.openN Z2 fun v15 => WC_draw [9, 10, 11] [Cl q8 122 [Iv 2, Tx [], Iv 0, .slice none 0 0, Iv t1.pos, slV v15]] mixed (Dt 0 rfl rfl (Q0 (K1 Z0)) (Rm (ptr q8) rfl) (Dt 1 rfl rfl (Q0 (K1 Z0)) (Rm (ptr q8) rfl) (Dt 2 rfl rfl (Q0 (K1 Z0)) (Rn q8 0 rfl) (Dt 3 rfl rfl (Q0 (K1 Z0)) (Rf q8 0 fa122_1 rfl) (Dt 4 rfl rfl (Q0 (K1 Z0)) (Rl q8 5 (slV v15) isAgg120 rfl Z0 rfl) (Dt 5 rfl rfl (Q0 (K1 Z0)) (Rm (.func (.func f) fs.toArray cs.toArray) rfl) (WD_callN 6 (by kernel_rfl) rfl rfl rfl (run_callV hC rfl (by first | rfl | simp)) (con) H (K3 Z2 Z2 Z2) (fun _ _ h => ⟨rfl, h⟩) rfl (.tail (En Z0 D2)) (Q0 (K1 Z0)) fun x16 ts17 q18 H => WD_ef 7 (by kernel_rfl) rfl rfl rfl (ef_buildSlice (E := 118) (vs := [(0, ptr q18)]) (l := [ptr q18]) rfl (bs120_1 _ rfl )) (fun _ _ => Q0 (K1 (.succ Z4))) fun b19 => WD_ef 8 (by kernel_rfl) rfl rfl rfl (ef_appendKid rfl rfl (K3 (.succ (.succ Z4)) Z0 Z0) (by (try simp) <;> omega)) (fun _ _ => Q0 (K1 Z4)) fun v20 => WD_rd 9 (by kernel_rfl) rfl rfl rfl (Rn q8 0 rfl) (late_vac (i := 9) (by kernel_rfl) (by decide)) (WD_rd 10 (by kernel_rfl) rfl rfl rfl (Rf q8 0 fa122_1 rfl) (late_vac (i := 10) (by kernel_rfl) (by decide)) (WD_ef0 11 (by kernel_rfl) rfl rfl rfl (ef_store (b := q8) (o := 5) (v := slV v20) (vs := [slV v20]) sizeOf120 rfl rfl rfl rfl rfl Z4 (.skip (.skip (.skip (.skip (.skip (.put .done))))))) (late_vac (i := 11) (by kernel_rfl) (by decide)) ?_)))))))))))))
 refine WD_done (by kernel_rfl) ?_ _
 refine At_blockN (At.ent (closeN (K2 Z0 Z0)) ?_)
 exact At_againM (k, (acc9 ++ [x16])) _ H (show (acc9 ++ [x16]).length + 2 * k ≤ 2 * K + 2 by (try simp) <;> omega) ⟨rfl, rfl, rfl, rfl, trivial⟩ (E4 Z0 Z0 Z0 Z0) (Nat.lt_succ_self _)
theorem c_list2 {f : FuncId} {fs cs : List Value} {Y Z : HP} {m : M PT} (hK : K ≤ 274877906944) (hC : ∀ args w, (callFunc f args).run prog w = .ok (.enter f args) w) (con : ConM f (fs ++ cs) pb tb L cap [Y, Z] m resN) : ConM 217 [ptr pb, .func (.func f) fs.toArray cs.toArray] pb tb L cap [Y, Z] (listM K m) resN := by
 intro ts r H F
 show ∀ w, Sat (PO pb tb L cap ts :: TB tb L :: Y :: Z :: F) w → _
 replace H := bpureH H
 unfold listM at H
 try simp only [nr] at H
 refine calls_of_WC (fn := f217) func217 rfl rfl (Sr (Av (.pointer none) (Ny (Mv (ptr pb) (Cv call85 (c_now) H (K2 Z0 Z0) (.tail (E2 Z0 Z0)) fun t1 ts2 H => WL_rd (rd_field (u := .agg #[Iv t1.kind, Tx t1.text, Iv t1.pos, Iv t1.en]) (v := Iv t1.pos) rfl (fv47_2 _ _ _ _ )) (Mv (.func (.func f) fs.toArray cs.toArray) (WL_callVN hC rfl (by first | rfl | simp) (con) H (K4 Z0 Z0 Z0 Z0) (fun _ _ h => ⟨rfl, h⟩) rfl (.tail (E2 Z0 Z0)) fun x4 ts5 q6 H => Bl 118 [ptr q6] (bs120_1 _ rfl ) fun b7 => WL_made (k := 2) (s := []) (nu := 0) (a := t1.pos) rfl rfl (ent_kd1 (K2 Z0 Z0)) fun q8 => Av (ptr q8) (Nt (WC_seq (WC_block (WC_loopM (G := Nat × List PT) (fun x => x.2.length + 2 * x.1 ≤ 2 * K + 2) (fun x => moreM x.1 m x.2) (fun x => [(0, ptr pb), (1, (.func (.func f) fs.toArray cs.toArray)), (4, .pointer none), (5, ptr q8)]) (fun x ts => TN (PT.node 2 [] 0 t1.pos x.2) q8 :: PO pb tb L cap ts :: TB tb L :: Y :: Z :: F) (fun x => x.1) (K, [x4]) H (show [x4].length + 2 * K ≤ 2 * K + 2 by (try simp) <;> omega) ⟨rfl, rfl, rfl, rfl, trivial⟩ (En Z0 (E4 Z0 Z0 Z0 Z0)) ?_)))))))))))
 rintro ⟨k, acc9⟩ ts10 σ hpre H
 replace hpre : acc9.length + 2 * k ≤ 2 * K + 2 := hpre
 change (moreM k m acc9 >>= _) _ = _ at H
 rcases k with _ | k
 · exact oofK H
 rw [moreM] at H
 try simp only [nr] at H
 show WC prog _ _ _ (upds σ [(0, ptr pb), (1, (.func (.func f) fs.toArray cs.toArray)), (4, .pointer none), (5, ptr q8)]) _ (TN (PT.node 2 [] 0 t1.pos acc9) q8 :: PO pb tb L cap ts10 :: TB tb L :: Y :: Z :: F)
 refine Sz (Mv (ptr pb) (Cv call134 (c_take [44]) H (K2 Z1 Z1) (.tail (En Z1 (En Z1 D1))) fun b11 ts12 H => Nt ?_))
 cases hb14 : (b11)
 · try simp only [nr, hb14] at H
   refine WC_false rfl (WC_exit (At_thenX (At_loopX (At_blockX (At_then (Sr (Mv (ptr q8) (Av (ptr q8) (Nr ?_)))))))))
   try simp only [nr] at H
   exact At_ret1 results217 (fin_node H (K3 Z2 Z0 Z0) (E2 Z0 Z0))
 try simp only [nr, hb14] at H
 refine WC_true rfl (WC_skip (At_then (WC_block (WC.openN Z2 fun v15 => WC_draw [9, 10, 11] [Cl q8 122 [Iv 2, Tx [], Iv 0, .slice none 0 0, Iv t1.pos, slV v15]] mixed (Dt 0 rfl rfl (Q0 (K1 Z0)) (Rm (ptr q8) rfl) (Dt 1 rfl rfl (Q0 (K1 Z0)) (Rm (ptr q8) rfl) (Dt 2 rfl rfl (Q0 (K1 Z0)) (Rn q8 0 rfl) (Dt 3 rfl rfl (Q0 (K1 Z0)) (Rf q8 0 fa122_1 rfl) (Dt 4 rfl rfl (Q0 (K1 Z0)) (Rl q8 5 (slV v15) isAgg120 rfl Z0 rfl) (Dt 5 rfl rfl (Q0 (K1 Z0)) (Rm (.func (.func f) fs.toArray cs.toArray) rfl) (WD_callN 6 (by kernel_rfl) rfl rfl rfl (run_callV hC rfl (by first | rfl | simp)) (con) H (K4 Z2 Z2 Z2 Z2) (fun _ _ h => ⟨rfl, h⟩) rfl (.tail (En Z0 (En Z0 D2))) (Q0 (K1 Z0)) fun x16 ts17 q18 H => WD_ef 7 (by kernel_rfl) rfl rfl rfl (ef_buildSlice (E := 118) (vs := [(0, ptr q18)]) (l := [ptr q18]) rfl (bs120_1 _ rfl )) (fun _ _ => Q0 (K1 (.succ (.succ Z4)))) fun b19 => WD_ef 8 (by kernel_rfl) rfl rfl rfl (ef_appendKid rfl rfl (.cons (.succ (.succ (.succ Z4))) (K2 Z0 Z0)) (by (try simp) <;> omega)) (fun _ _ => Q0 (K1 (.succ Z4))) fun v20 => WD_rd 9 (by kernel_rfl) rfl rfl rfl (Rn q8 0 rfl) (late_vac (i := 9) (by kernel_rfl) (by decide)) (WD_rd 10 (by kernel_rfl) rfl rfl rfl (Rf q8 0 fa122_1 rfl) (late_vac (i := 10) (by kernel_rfl) (by decide)) (WD_ef0 11 (by kernel_rfl) rfl rfl rfl (ef_store (b := q8) (o := 5) (v := slV v20) (vs := [slV v20]) sizeOf120 rfl rfl rfl rfl rfl (.succ Z4) (.skip (.skip (.skip (.skip (.skip (.put .done))))))) (late_vac (i := 11) (by kernel_rfl) (by decide)) ?_)))))))))))))
 refine WD_done (by kernel_rfl) ?_ _
 refine At_blockN (At.ent (closeN (K2 Z0 Z0)) ?_)
 exact At_againM (k, (acc9 ++ [x16])) _ H (show (acc9 ++ [x16]).length + 2 * k ≤ 2 * K + 2 by (try simp) <;> omega) ⟨rfl, rfl, rfl, rfl, trivial⟩ (En Z0 (E4 Z0 Z0 Z0 Z0)) (Nat.lt_succ_self _)
theorem c_vars1 (vb : Nat) : ConM 218 [ptr vb] pb tb L cap [Cl vb 113 [ptr pb]] varM resN := by
 intro ts r H F
 show ∀ w, Sat (PO pb tb L cap ts :: TB tb L :: Cl vb 113 [ptr pb] :: F) w → _
 replace H := bpureH H
 unfold varM at H
 try simp only [nr] at H
 refine calls_of_WC (fn := f218) func218 rfl rfl (Sr (Av (.pointer none) (Ny (Lo vb 0 (ptr pb) isAgg113 Z2 rfl (Cv call85 (c_now) H (K2 Z0 Z0) (.tail (E1 Z0)) fun t1 ts2 H => WL_rd (rd_field (u := .agg #[Iv t1.kind, Tx t1.text, Iv t1.pos, Iv t1.en]) (v := Iv t1.pos) rfl (fv47_2 _ _ _ _ )) (Av (Iv t1.pos) (Ny (Lo vb 0 (ptr pb) isAgg113 Z2 rfl (Cv call184 (c_name) H (K2 Z0 Z0) (.tail (E1 Z0)) fun s4 ts5 H => Mv (Iv t1.pos) (WL_made (k := 67) (s := s4) (nu := 0) (a := t1.pos) rfl rfl (ent_kd0) fun q7 => Av (ptr q7) (Nr ?_)))))))))))
 try simp only [nr] at H
 exact At_ret1 results218 (fin_node H (K3 Z0 Z0 Z0) (E1 Z0))
theorem c_vars (hK : K ≤ 274877906944) : ConM 185 [ptr pb] pb tb L cap [] (varsM K) resN := by
 intro ts r H F
 show ∀ w, Sat (PO pb tb L cap ts :: TB tb L :: F) w → _
 replace H := bpureH H
 unfold varsM at H
 try simp only [nr] at H
 refine calls_of_WC (fn := f185) func185 rfl rfl (Sr (WL_ef (ef_box (v := ptr pb) (l := [ptr pb]) rfl rfl) fun b1 => Av (.pointer none) (Ny (Lo b1 0 (ptr pb) isAgg113 Z0 rfl (Cv call85 (c_now) H (K2 Z1 Z1) (.tail D1) fun t2 ts3 H => WL_rd (rd_field (u := .agg #[Iv t2.kind, Tx t2.text, Iv t2.pos, Iv t2.en]) (v := Iv t2.pos) rfl (fv47_2 _ _ _ _ )) (Av (Iv t2.pos) (Nz (Lo b1 0 (ptr pb) isAgg113 Z2 rfl (Cv call134 (c_take [60]) H (K2 Z0 Z0) (.tail D1) fun b5 ts6 H => WL_rd (rd_not (b := b5) rfl) (Nt ?_))))))))))
 cases hb8 : (!b5)
 · try simp only [nr, hb8] at H
   refine Fx (Lo b1 0 (ptr pb) isAgg113 Z2 rfl (WL_rd (rd_makeFunc (us := []) (vs := [ptr b1]) rfl rfl) (Cn call217 (c_list (fs := []) (cs := [ptr b1]) hK call218 (c_vars1 b1)) H (K3 Z0 Z0 Z0) (.tail D1) fun x9 ts10 q11 H => Av (ptr q11) (Ny (Mv (ptr q11) (Mv (Iv t2.pos) (Nc q11 0 (Fa q11 0 fa122_0 (Fa q11 0 fa39_4 ?_)))))))))
   obtain ⟨k12, s12, n12, a12, l12⟩ := x9
   try simp only [nr] at H
   refine WL.openN Z0 fun v13 => S1 q11 4 (Iv t2.pos) sizeOf3 Z0 (.skip (.skip (.skip (.skip (.put .done))))) (Ny (Lo b1 0 (ptr pb) isAgg113 Z4 rfl (Cv call219 (c_angle) H (K2 Z2 Z2) (.tail D3) fun u14 ts15 H => Ny (Mv (ptr q11) (Av (ptr q11) (Nr ?_))))))
   try simp only [nr] at H
   refine At.ent (closeN (K2 Z2 Z2)) ?_
   exact At_ret1 results185 (fin_node H (K3 Z0 Z0 Z0) D1)
 try simp only [nr, hb8] at H
 refine Ts (Lo b1 0 (ptr pb) isAgg113 Z2 rfl (Cn call191 (c_empty) H (K2 Z0 Z0) (.tail D1) fun x21 ts22 q23 H => Av (ptr q23) (Nr (At_thenR ?_))))
 try simp only [nr] at H
 exact At_ret1 results185 (fin_node H (K3 Z0 Z0 Z0) D1)
end
end Go.Proofs

namespace Go.Proofs
open Go.Px Tryz
attribute [local semireducible] WL WC At WD
section
variable {n : Nat} {Q : Post} {ρ : Env} {ds : List Deferred} {Γ Γ' F F0 X : List HP} {P : Program}
theorem callsD_recover {f : FuncId} {fn : Func} {args : List Value} {R : Ending → World → Prop} {u u' : FrameMode} {v : Value} {y : Code} {d : Tmp} {id : Nat} {ty : TypeId} {pos : String} {af : Array Edge}
 (hf : P.funcs[f]? = some fn) (hb : fn.body = some (.seq (.region id [⟨some d, .call ⟨.builtin .recover, #[], #[]⟩, ty, pos, af, none⟩].toArray false) y)) (hn : Nat.ble args.length fn.ntmps = true)
 (hrec : ∀ (c₀ : Frame) cs, c₀.mode = u → recoverD (c₀ :: cs) = some (v, { c₀ with mode := u' } :: cs) ∨ (recoverD (c₀ :: cs) = none ∧ v = .nilIface ∧ u' = u))
 (h : WC P fn.ntmps y (bodyQ P fn R) (upd (ini args) d v) [] Γ) : ∀ w, Sat Γ w → CallsD P f args.toArray u w (fun e u'' w' => u'' = u' ∧ R e w') := fun w s => by
 refine callsD_of_wpS hf hb fun c₀ cs hm => ?_
 rw [ini_act hn]
 refine wpS_seq (wpS_region ?_)
 have key : ∀ cs', cs' = { c₀ with mode := u' } :: cs → y.wpS P (bodyPostS P fn c₀ cs (fun e u'' w' => u'' = u' ∧ R e w')) ((actOf fn.ntmps (ini args) []).put (some d) v) cs' w := fun cs' hcs => by
  rw [actOf_put]
  refine wpS_of_wp (wp_mono (h w s) ?_)
  intro e a w' q
  subst hcs
  cases e with
  | panic c => obtain ⟨ρ, _, q⟩ := q; exact ⟨q.1, u', rfl, rfl, q.2⟩
  | outgrown => obtain ⟨ρ, ds, -, q⟩ := q; exact ⟨u', rfl, q⟩
  | normal => obtain ⟨ρ, ds, rfl, q⟩ := q; obtain ⟨h1, v', h2, h3⟩ := q; exact ⟨h1, u', rfl, v', h2, rfl, h3⟩
  | ret => obtain ⟨ρ, ds, rfl, q⟩ := q; obtain ⟨h1, v', h2, h3⟩ := q; exact ⟨h1, u', rfl, v', h2, rfl, h3⟩
  | exit i => obtain ⟨ρ, ds, rfl, q⟩ := q; exact q
  | goto i => obtain ⟨ρ, ds, rfl, q⟩ := q; exact q
 show wpOpsS P _ _ [0] _ _ _
 have hx : (execOp (actOf fn.ntmps (ini args) []).eval ⟨some d, .call ⟨.builtin .recover, #[], #[]⟩, ty, pos, af, none⟩).run P w = .ok .recover w := by
  simp [execOp, resolve, invoke, builtin]
 rcases hrec c₀ cs hm with hr | ⟨hr, rfl, rfl⟩
 · simp only [wpOpsS, List.getElem?_toArray, List.getElem?_cons_zero, Region.wanted, if_true, hx, hr]
   exact key _ rfl
 simp only [wpOpsS, List.getElem?_toArray, List.getElem?_cons_zero, Region.wanted, if_true, hx, hr]
 exact key _ (by rw [← hm])
theorem rd_typeAssert {x : Operand} {S T : TypeId} {v : Value} {D : TypeDesc} {d : Option Tmp} {ty : TypeId} {pos : String} {af : Array Edge} {gd : Option (Nat × Bool)} (hU : ∀ w, (underlying T).run P w = .ok D w) (hD : ∀ m, D ≠ .interface m)
 (hx : evE n ρ x = .iface T v) : Rd P n ρ ⟨d, .typeAssert x S T true, ty, pos, af, gd⟩ Γ (.tuple #[v, .bool true]) := fun w _ => by
 cases D <;> first | exact absurd rfl (hD _) | simp [execOp, hx, Instr.typeAssert, hU]
theorem recoverD_returning {c₀ : Frame} {cs : List Frame} (h : c₀.mode = .returning) : recoverD (c₀ :: cs) = none := by simp [recoverD, h]
theorem recoverD_panicking {c₀ : Frame} {cs : List Frame} {v : Value} {old : List PanicEntry} (h : c₀.mode = .panicking ({ v := v, recovered := false } :: old)) :
 recoverD (c₀ :: cs) = some (v, { c₀ with mode := .panicking ({ v := v, recovered := true } :: old) } :: cs) := by simp [recoverD, h]
theorem At_retD {fn : Func} {R : Ending → World → Prop} (h : ∀ w, Sat Γ w → Leaves P fn (actOf fn.ntmps ρ ds).tmps R ds .returning w) : At .ret (bodyQD P fn R) ρ ds Γ := fun w s => h w s
theorem WC_scopeM {c rest : Code} {β γ G : Type} {κ : γ → M β} {r : Except Int (β × List Tk)} (l : Nat) (hf : findLabel c l = some rest) (pre : G → Prop) (m : G → M γ) (vals : G → List (Nat × Value)) (H : G → List Tk → List HP) (μ : G → Nat)
 (first : WC P n c (scopeQ l (fun ρ₁ ds₁ w => ds₁ = ds ∧ ∃ y, loopE κ r pre m vals y ρ₁ ∧ Sat (loopH H y) w) Q) ρ ds Γ)
 (pass : ∀ x ts σ, pre x → (m x >>= κ) ts = some r → WC P n rest (scopeQ l (Again ds (loopE κ r pre m vals) (loopH H) (loopN μ) (μ x)) Q) (upds σ (vals x)) ds (H x ts)) : WC P n (.scope c) Q ρ ds Γ :=
 WC_scope_jumps l (loopE κ r pre m vals) (loopH H) (loopN μ) hf first fun x ρ' h => by
  have := pass x.1 x.2 ρ' h.1.1 h.1.2
  rw [h.2.eq] at this
  exact this
theorem WL_signs {ops : Array Oper} {rest : List Oper} {xs : List Operand} {ats : Array TypeId} {t : Tmp} {ty : TypeId} {pos : String} {af : Array Edge} {n0 : Nat} {l : List Bs} (hs : sgn n0 = some l) (hx : xs.map (evE n ρ) = [.int .i64 ((n0 : Nat) : Int)])
 (hok : ∀ b, WL prog n ops rest Q (upd ρ t (.slice (some ⟨b, 0, none⟩) l.length l.length)) ds (Cl b 9 (l.map fun s => .string (bs s)) :: Γ)) :
 WL prog n ops (⟨some t, .call ⟨.value (.func 223), xs.toArray, ats⟩, ty, pos, af, none⟩ :: rest) Q ρ ds Γ :=
 WL_call call223 (args_map hx) (fun w s => c_signs hs Γ w s) (fun v' w h => by obtain ⟨b, h, s⟩ := h; cases h; exact hok b w s) (fun c w h => by obtain ⟨b, h, _⟩ := h; cases h) (fun w h => by obtain ⟨b, h, _⟩ := h; cases h)
end
end Go.Proofs

namespace Go.Proofs
open Go.Px Tryz
section
variable {pb tb cap K : Nat} {L : List Tk} {g : NT → M PT}
theorem c_rec0 (b : Nat) (x : Bool) : ∀ F w, Sat (Cl b 4 [.bool x] :: F) w → CallsD prog 266 [ptr b].toArray .returning w (fun e u' w' => u' = .returning ∧ e = .returned (.tuple #[]) ∧ Sat (Cl b 4 [.bool x] :: F) w') := by
 intro F
 refine callsD_recover (fn := f266) (v := .nilIface) (u' := .returning) (R := fun e w' => e = .returned (.tuple #[]) ∧ Sat (Cl b 4 [.bool x] :: F) w') func266 rfl rfl (fun c₀ cs h => .inr ⟨recoverD_returning h, rfl, rfl⟩) (WC_block (Sr (WL_rd (rd_eqNN runUnderlying20 rfl) (Nt (Tr (Av .nilIface (WL_nil (At_blockN ?_))))))))
 exact At_end0 results266 (fun w q => ⟨rfl, q.mono (E1 Z0)⟩)
theorem c_rec1 (b : Nat) (x : Bool) (a : Int) : ∀ F w, Sat (Cl b 4 [.bool x] :: F) w → CallsD prog 266 [ptr b].toArray (.panicking [refused a]) w (fun e u' w' => u' = .panicking [{ refused a with recovered := true }] ∧ e = .returned (.tuple #[]) ∧ Sat (Cl b 4 [.bool false] :: F) w') := by
 intro F
 refine callsD_recover (fn := f266) (v := .iface 117 (.agg #[Iv a])) (u' := .panicking [{ refused a with recovered := true }]) (R := fun e w' => e = .returned (.tuple #[]) ∧ Sat (Cl b 4 [.bool false] :: F) w') func266 rfl rfl (fun c₀ cs h => .inl (recoverD_panicking h)) (WC_block (Sr (WL_rd (rd_eqIN runUnderlying20 rfl) (Nt (WC_false rfl (Sr (WL_rd (rd_typeAssert runUnderlying117 (fun _ h => by cases h) rfl) (Xt (.bool true) (Xt (.agg #[Iv a]) (Nt (Ts (WL_ef (ef_alloc (l := [Iv 0]) zeroValue117 rfl) fun b1 => Sa b1 0 [Iv a] sizeOf117 Z0 (.put .done) (Nt (WC_region (S1 b 0 (.bool false) sizeOf4 Z1 (.put .done) (WL_nil (At_blockN ?_)))))))))))))))))
 exact At_end0 results266 (fun w q => ⟨rfl, q.mono (En Z0 D1)⟩)
theorem calls_leaves0 {fn : Func} {b : Nat} {x : Bool} (hres : fn.results = #[.cell 2 4]) {tmps : Array Value} (ht : tmps.getD 2 undef = ptr b) {R : Ending → World → Prop} {F : List HP} {w : World} (s : Sat (Cl b 4 [.bool x] :: F) w)
 (hR : ∀ w, Sat (Cl b 4 [.bool x] :: F) w → R (.returned (.bool x)) w) : Leaves prog fn tmps R [⟨.fn (.func 266) [ptr b].toArray, #[]⟩] .returning w := by
 refine leaves_cons (by simp) (f := 266) (args := [ptr b].toArray) (by simp [invoke, call266]) ((c_rec0 b x F w s).mono fun e u' w' h => ?_)
 obtain ⟨rfl, rfl, hs⟩ := h
 refine ⟨.bool x, ?_, hR w' hs⟩
 have := run_cell1 (P := prog) (w := w') (tmps := tmps) (a := 2) isAgg4 ht (Sat.blk hs)
 simp only [results, hres]
 simpa using this
theorem calls_leaves1 {fn : Func} {b : Nat} {x : Bool} {a : Int} (hres : fn.results = #[.cell 2 4]) {tmps : Array Value} (ht : tmps.getD 2 undef = ptr b) {R : Ending → World → Prop} {F : List HP} {w : World} (s : Sat (Cl b 4 [.bool x] :: F) w)
 (hR : ∀ w, Sat (Cl b 4 [.bool false] :: F) w → R (.returned (.bool false)) w) : Leaves prog fn tmps R [⟨.fn (.func 266) [ptr b].toArray, #[]⟩] (.panicking [refused a]) w := by
 refine leaves_cons (by simp) (f := 266) (args := [ptr b].toArray) (by simp [invoke, call266]) ((c_rec1 b x a F w s).mono fun e u' w' h => ?_)
 obtain ⟨rfl, rfl, hs⟩ := h
 refine ⟨.bool false, ?_, hR w' hs⟩
 have := run_cell1 (P := prog) (w := w') (tmps := tmps) (a := 2) isAgg4 ht (Sat.blk hs)
 simp only [results, hres]
 simpa using this
theorem is_noerr {s : Bs} {ts : List Tk} {a : Int} : isM s ts ≠ some (.error a) := fun h => by cases ts <;> cases h
theorem c_calls (hg : CG g) : ConM 258 [ptr pb] pb tb L cap [] (callsM g) (resV boVal) := by
 intro ts r H F
 show ∀ w, Sat (PO pb tb L cap ts :: TB tb L :: F) w → _
 unfold callsM at H
 refine calls_of_WCD (fn := f258) func258 rfl rfl ?_
 cases h1 : g .args ts with
 | none => rw [h1] at H; cases H
 | some e =>
  rw [h1] at H
  cases e with
  | error a =>
   have hr : r = .ok (false, ts) := (Option.some.inj H).symm
   refine Sr (WL_ef (ef_alloc (l := [.bool false]) zeroValue4 rfl) fun b1 => Nt (WC_seq (WC.ent (Sels.ent (K1 Z1)) (WC.openPO fun i l s hp => WC_region (Mv (ptr pb) (Nc pb 0 (WL_rd (rd_loadN (b := pb) (o := 0) (vs := [Sl tb L.length cap, Iv (i : Nat), Iv l.kind, Tx l.text, Iv l.pos, Iv l.en, .bool s]) isAgg115 sizeOf115 rfl Z0 rfl rfl) (WL_ef (ef_alloc (l := [.slice none 0 0, Iv 0, Iv 0, Tx [], Iv 0, Iv 0, .bool false]) zeroValue115 rfl) fun b2 => Sa b2 0 [Sl tb L.length cap, Iv (i : Nat), Iv l.kind, Tx l.text, Iv l.pos, Iv l.en, .bool s] sizeOf115 Z0 (.put (.put (.put (.put (.put (.put (.put .done))))))) (Nt (WC_seq (WC.ent (Sels.ent (K1 Z0)) (WC.ent (closePO hp) (WC.ent (Sels.ent (K1 Z1)) (WC.ent (closePO hp) (WC_region (WL_rd (rd_makeFunc (us := []) (vs := [ptr b1]) rfl rfl) (WL_defer (f := 266) (fs := [].toArray) (cs := [ptr b1].toArray) (args := #[]) rfl (by simp) (Ny ?_))))))))))))))))))
   refine WL_call (args := [ptr b2].toArray) (R := RM b2 tb L cap (.error a) resN (PO pb tb L cap ts :: Cl b1 4 [.bool false] :: F)) call215 (args_map rfl) (fun w s => hg .args b2 tb L cap ts _ h1 _ w (s.mono (Sels.ent (K2 Z1 Z2)))) ?_ ?_ (fun _ h => h)
   · rintro v w ⟨x, ts', h, _⟩; cases h
   rintro c w ⟨a', h, rfl, s⟩
   cases h
   intro tmps hk
   exact calls_leaves1 results258 (hk 2 (by decide)) (s.mono (Sels.ent (K1 Z2))) (fin_val (val := boVal) (x := false) (by rw [hr]; rfl) rfl (K2 Z2 Z1) D1)
  | ok p =>
   obtain ⟨x, ts'⟩ := p
   cases h2 : isM [40] ts' with
   | none => simp only [h2] at H; cases H
   | some e2 =>
    simp only [h2] at H
    cases e2 with
    | error a => exact absurd h2 is_noerr
    | ok p2 =>
     obtain ⟨b, ts''⟩ := p2
     have hr : r = .ok (b, ts) := (Option.some.inj H).symm
     refine Sr (WL_ef (ef_alloc (l := [.bool false]) zeroValue4 rfl) fun b1 => Nt (WC_seq (WC.ent (Sels.ent (K1 Z1)) (WC.openPO fun i l s hp => WC_region (Mv (ptr pb) (Nc pb 0 (WL_rd (rd_loadN (b := pb) (o := 0) (vs := [Sl tb L.length cap, Iv (i : Nat), Iv l.kind, Tx l.text, Iv l.pos, Iv l.en, .bool s]) isAgg115 sizeOf115 rfl Z0 rfl rfl) (WL_ef (ef_alloc (l := [.slice none 0 0, Iv 0, Iv 0, Tx [], Iv 0, Iv 0, .bool false]) zeroValue115 rfl) fun b2 => Sa b2 0 [Sl tb L.length cap, Iv (i : Nat), Iv l.kind, Tx l.text, Iv l.pos, Iv l.en, .bool s] sizeOf115 Z0 (.put (.put (.put (.put (.put (.put (.put .done))))))) (Nt (WC_seq (WC.ent (Sels.ent (K1 Z0)) (WC.ent (closePO hp) (WC.ent (Sels.ent (K1 Z1)) (WC.ent (closePO hp) (WC_region (WL_rd (rd_makeFunc (us := []) (vs := [ptr b1]) rfl rfl) (WL_defer (f := 266) (fs := [].toArray) (cs := [ptr b1].toArray) (args := #[]) rfl (by simp) (Ny (WL_callN (Res0 := resN) (F0 := []) call215 rfl (hg .args _ _ _ _) (bpureH h1) (K2 Z1 Z2) (fun c w h => by obtain ⟨a, h, _⟩ := h; cases h) rfl (.tail (Ent.nil _)) ?_)))))))))))))))))))
     intro x9 ts9 q9 H9
     cases M.of_pure H9
     refine Ny (WL_callV' (Res0 := resV boVal) (F0 := []) call132 rfl (c_is [40]) (bpureH h2) (K2 Z1 Z1) (fun c w h => by obtain ⟨a, h, _⟩ := h; cases h) rfl (.tail (Ent.nil _)) ?_)
     intro b9 ts8 H8
     cases M.of_pure H8
     refine S1 b1 0 (.bool b) sizeOf4 Z4 (.put .done) (Nr ?_)
     refine At_retD fun w s => calls_leaves0 results258 (by rw [actOf_getD]; rfl) (s.mono (Sels.ent (K1 Z0))) (fin_val (val := boVal) (x := b) (by rw [hr]; rfl) rfl (K2 Z4 Z2) D3)
end
end Go.Proofs
