/- Going through a text rune by rune; what a rune of it can be. -/
import Derived.Test.YtldagpopfebbbaaGreatDoorZI
import Derived.Laws.RangeString
set_option linter.unusedVariables false
set_option linter.unusedSimpArgs false
namespace Go.Proofs
open Go.Px Tryz
section
variable {pb tb cap K : Nat} {L : List Tk} {g : NT → M PT} {gx : GX} {rx : RX}
theorem contR_lt : ∀ (s : List UInt8) (r r' : Nat), contR s r = some r' → r' < (r + 1) * 64 ^ s.length
 | [], r, r', h => by cases h; simp
 | c :: s, r, r', h => by
  rw [contR] at h
  cases hb : decide (c.toNat / 64 = 2) with
  | false => rw [hb] at h; cases h
  | true =>
   rw [hb] at h
   have := contR_lt s _ r' h
   refine Nat.lt_of_lt_of_le this ?_
   rw [List.length_cons, Nat.pow_succ, Nat.mul_comm (64 ^ s.length) 64, ← Nat.mul_assoc]
   exact Nat.mul_le_mul_right _ (by omega)
theorem wide_bounds3 (c : UInt8) : ((wideB c).1 = 3 → (wideB c).2 < 16) ∧ ((wideB c).1 = 1 → (wideB c).2 < 128) ∧ ((wideB c).1 = 2 → (wideB c).2 < 32) := by
 unfold wideB
 cases g1 : decide (c.toNat < 128) <;> cases g2 : decide (c.toNat / 32 = 6) <;> cases g3 : decide (c.toNat / 16 = 14) <;> cases g4 : decide (c.toNat / 8 = 30) <;> simp only [decide_eq_true_eq, decide_eq_false_iff_not, cond_true, cond_false] at * <;> refine ⟨?_, ?_, ?_⟩ <;> omega
theorem fits_valid {c : UInt8} {l : Bs} {i r : Nat} (h1 : 1 ≤ (wideB c).1) (h2 : contR ((l.drop (i + 1)).take ((wideB c).1 - 1)) (wideB c).2 = some r) (h3 : fitsB r (wideB c).1 = true) : r ≤ 1114111 ∧ (r < 55296 ∨ 57343 < r) := by
 have hb := wide_bounds c
 have hb3 := wide_bounds3 c
 have hlt := contR_lt _ _ _ h2
 have hlen : ((l.drop (i + 1)).take ((wideB c).1 - 1)).length ≤ (wideB c).1 - 1 := List.length_take_le _ _
 generalize hn : (wideB c).1 = n at *
 generalize hr0 : (wideB c).2 = r0 at *
 generalize hs : (l.drop (i + 1)).take (n - 1) = s at *
 have h4 : n = 1 ∨ n = 2 ∨ n = 3 ∨ n = 4 := by omega
 rcases h4 with rfl | rfl | rfl | rfl
 · have : s.length = 0 := by omega
   rw [this] at hlt; simp only [Nat.pow_zero, Nat.mul_one] at hlt
   have := hb3.2.1 rfl; omega
 · have h5 : 64 ^ s.length ≤ 64 ^ 1 := Nat.pow_le_pow_right (by omega) (by omega)
   have h6 := hb3.2.2 rfl
   have : (r0 + 1) * 64 ^ s.length ≤ 32 * 64 ^ 1 := Nat.mul_le_mul (by omega) h5
   omega
 · unfold fitsB at h3
   simp only [show (3 == 1) = false from rfl, show (3 == 2) = false from rfl, show (3 == 3) = true from rfl, cond_false, cond_true, Bool.and_eq_true, Bool.or_eq_true, decide_eq_true_eq] at h3
   have h5 : 64 ^ s.length ≤ 64 ^ 2 := Nat.pow_le_pow_right (by omega) (by omega)
   have h6 := hb3.1 rfl
   have : (r0 + 1) * 64 ^ s.length ≤ 16 * 64 ^ 2 := Nat.mul_le_mul (by omega) h5
   omega
 unfold fitsB at h3
 simp only [show (4 == 1) = false from rfl, show (4 == 2) = false from rfl, show (4 == 3) = false from rfl, cond_false, Bool.and_eq_true, decide_eq_true_eq] at h3
 omega
theorem decode_valid (l : Bs) (i : Nat) : (decodeB l i).1 ≤ 1114111 ∧ ((decodeB l i).1 < 55296 ∨ 57343 < (decodeB l i).1) := by
 unfold decodeB
 cases hc : l[i]? with
 | none => simp
 | some c =>
  dsimp only
  cases h : ((wideB c).1 == 0 || decide ((wideB c).1 > l.length - i)) with
  | true => simp
  | false =>
   simp only [cond_false]
   cases hr : contR ((l.drop (i + 1)).take ((wideB c).1 - 1)) (wideB c).2 with
   | none => simp
   | some r =>
    dsimp only
    cases hf : fitsB r (wideB c).1 with
    | false => simp
    | true =>
     simp only [cond_true]
     refine fits_valid ?_ hr hf
     simp only [Bool.or_eq_false_iff, beq_eq_false_iff_ne, ne_eq] at h
     omega
theorem encode_rune {r : Nat} (h : r ≤ 1114111) (h2 : r < 55296 ∨ 57343 < r) : Utf8.encode (r : Int) = bs (runeBs r) := by
 have hv : Utf8.valid (r : Int) = true := by unfold Utf8.valid; simp; omega
 unfold Utf8.encode runeBs bs
 simp only [hv, if_true, Int.toNat_natCast]
 cases g1 : decide (r < 128) <;> cases g2 : decide (r < 2048) <;> cases g3 : decide (r < 65536) <;> simp only [decide_eq_true_eq, decide_eq_false_iff_not] at g1 g2 g3 <;> simp only [cond_true, cond_false, g1, g2, g3, if_true, if_false] <;> first | rfl | omega
theorem rd_rune {n : Nat} {ρ : Env} {Γ : List HP} {d : Option Tmp} {ty : TypeId} {pos : String} {af : Array Edge} {gd : Option (Nat × Bool)} {x : Operand} {r : Nat} (hx : evE n ρ x = .int .i32 r) (h : r ≤ 1114111) (h2 : r < 55296 ∨ 57343 < r) :
 Rd prog n ρ ⟨d, .convert 21 9 x, ty, pos, af, gd⟩ Γ (Tx (runeBs r)) := fun w _ => by
 have := run_convert_int_string (P := prog) w 21 9 .i32 ((r : Nat) : Int) (by rw [underlying21]; rfl) underlying9
 rw [encode_rune h h2] at this
 simp only [execOp, hx, Sem.run_bind, this, Result.andThen_ok, Sem.run_pure]
theorem u8_t {c d : UInt8} {b : Bool} (h : (((c.toNat : Nat) : Int) == ((d.toNat : Nat) : Int)) = b) : (c == d) = b := by
 rw [← h, Bool.eq_iff_iff]
 simp only [beq_iff_eq]
 constructor
 · rintro rfl; rfl
 intro h; apply UInt8.toNat_inj.1; omega
theorem u8_n {c d : UInt8} {b : Bool} (h : (((c.toNat : Nat) : Int) != ((d.toNat : Nat) : Int)) = b) : (c != d) = b := by
 unfold bne at h ⊢
 rw [u8_t (c := c) (d := d) rfl]; exact h
theorem bin_addN {T : TypeId} {a b c : Nat} (hc : a + b = c) (h : c ≤ 9223372036854775807) : binOp .add T (Iv (a : Int)) (Iv (b : Int)) = pure (Iv (c : Int)) := by
 subst hc; rw [bin_add (by omega) (by omega)]; rfl
def rune1R (l : Bs) (i : Nat) : Nat × Bs × Bool := match rune1B l i with
 | some (j, o) => (j, o, true)
 | none => (i, [], false)
def hexedR (l : Bs) (i : Nat) : Nat × Bs × Bool := match hexedB l i with
 | some (j, o) => (j, o, true)
 | none => (i, [], false)
theorem runeBs_len (r : Nat) : (runeBs r).length ≤ 4 := by
 unfold runeBs
 cases decide (r < 128) <;> cases decide (r < 2048) <;> cases decide (r < 65536) <;> simp
theorem decode_size (l : Bs) (i : Nat) : (decodeB l i).2 ≤ 4 := by
 unfold decodeB
 cases hc : l[i]? with
 | none => simp
 | some c =>
  have := (wide_bounds c).1
  dsimp only
  cases ((wideB c).1 == 0 || decide ((wideB c).1 > l.length - i)) with
  | true => simp
  | false =>
   simp only [cond_false]
   cases contR ((l.drop (i + 1)).take ((wideB c).1 - 1)) (wideB c).2 with
   | none => simp
   | some r =>
    dsimp only
    cases fitsB r (wideB c).1 <;> simp only [cond_true, cond_false] <;> omega
theorem hexD_lower (c : UInt8) : (bif decide (c.toNat < 48) then none else (bif decide (Lib.indexByte [48, 49, 50, 51, 52, 53, 54, 55, 56, 57, 97, 98, 99, 100, 101, 102] (UInt8.ofNat (c.toNat ||| 32)) < 0) then none else some (Lib.indexByte [48, 49, 50, 51, 52, 53, 54, 55, 56, 57, 97, 98, 99, 100, 101, 102] (UInt8.ofNat (c.toNat ||| 32))).toNat)) = hexD c := by
 have key : ∀ n : Fin 256, (bif decide ((UInt8.ofNat n.val).toNat < 48) then none else (bif decide (Lib.indexByte [48, 49, 50, 51, 52, 53, 54, 55, 56, 57, 97, 98, 99, 100, 101, 102] (UInt8.ofNat ((UInt8.ofNat n.val).toNat ||| 32)) < 0) then none else some (Lib.indexByte [48, 49, 50, 51, 52, 53, 54, 55, 56, 57, 97, 98, 99, 100, 101, 102] (UInt8.ofNat ((UInt8.ofNat n.val).toNat ||| 32))).toNat)) = hexD (UInt8.ofNat n.val) := by decide +kernel
 have := key ⟨c.toNat, c.toNat_lt⟩
 have e : UInt8.ofNat c.toNat = c := by simp
 simp only [e] at this
 exact this
theorem bin_or8 {T : TypeId} (c : UInt8) : binOp .or T (u8v c) (.int .u8 32) = pure (u8v (UInt8.ofNat (c.toNat ||| 32))) := by
 have hc := c.toNat_lt
 have h1 : c.toNat ||| 32 < 256 := Nat.or_lt_two_pow (n := 8) hc (by decide)
 have := ib_or (k := .u8) (a := c.toNat) (b := 32) (by simpa [IntKind.bits] using hc) (by decide)
 rw [binOp_or]
 refine this.trans ?_
 rw [IntWalk.u8_in _ ⟨by omega, by omega⟩]
 have e : (UInt8.ofNat (c.toNat ||| 32)).toNat = c.toNat ||| 32 := by first | (simp; done) | (simp; omega)
 show _ = pure (Value.int .u8 (((UInt8.ofNat (c.toNat ||| 32)).toNat : Nat) : Int))
 rw [e]
theorem hexD_lt {c : UInt8} {d : Nat} (h : hexD c = some d) : d < 16 := by
 have key : ∀ n : Fin 256, (hexD (UInt8.ofNat n.val)).getD 0 < 16 := by decide +kernel
 have := key ⟨c.toNat, c.toNat_lt⟩
 have e : UInt8.ofNat c.toNat = c := by simp
 simp only [e, h] at this
 exact this
abbrev HEX : Bs := [48, 49, 50, 51, 52, 53, 54, 55, 56, 57, 97, 98, 99, 100, 101, 102]
theorem hex_some {c : UInt8} (h1 : ¬ c.toNat < 48) (h2 : ¬ Lib.indexByte HEX (UInt8.ofNat (c.toNat ||| 32)) < 0) : ∃ d : Nat, Lib.indexByte HEX (UInt8.ofNat (c.toNat ||| 32)) = (d : Int) ∧ hexD c = some d ∧ d < 16 := by
 have h := hexD_lower c
 rw [decide_eq_false h1, cond_false, decide_eq_false h2, cond_false] at h
 exact ⟨_, (Int.toNat_of_nonneg (Int.not_lt.1 h2)).symm, h.symm, hexD_lt h.symm⟩
theorem hex_none1 {c : UInt8} (h2 : Lib.indexByte HEX (UInt8.ofNat (c.toNat ||| 32)) < 0) : hexD c = none := by
 have h := hexD_lower c
 cases g : decide (c.toNat < 48) with
 | true => rw [g, cond_true] at h; exact h.symm
 | false => rw [g, cond_false, decide_eq_true h2, cond_true] at h; exact h.symm
theorem hex_none2 {c : UInt8} (h1 : c.toNat < 48) : hexD c = none := by
 have h := hexD_lower c
 rw [decide_eq_true h1, cond_true] at h; exact h.symm
theorem hexRun_step {l : Bs} {n k v d : Nat} {c : UInt8} (hc : l[k]? = some c) (hd : hexD c = some d) : hexRun l (n + 1) k v = hexRun l n (k + 1) (v * 16 + d) := by rw [hexRun, hc]; simp only [hd]
theorem hexRun_stop {l : Bs} {n k v : Nat} {c : UInt8} (hc : l[k]? = some c) (hd : hexD c = none) : hexRun l n k v = (k, v) := by
 cases n with
 | zero => rfl
 | succ n => rw [hexRun, hc]; simp only [hd]
theorem hexRun_end {l : Bs} {n k v : Nat} (h : n = 0 ∨ l.length ≤ k) : hexRun l n k v = (k, v) := by
 cases n with
 | zero => rfl
 | succ n => rw [hexRun, List.getElem?_eq_none (by omega)]
theorem hasB_len {l x : Bs} {i : Nat} (h : hasB l i x = true) (hx : x ≠ []) : i + x.length ≤ l.length := by
 unfold hasB at h
 have e : (l.drop i).take x.length = x := by simpa using h
 have := congrArg List.length e
 rw [List.length_take, List.length_drop] at this
 have : x.length ≠ 0 := fun h0 => hx (List.eq_nil_of_length_eq_zero h0)
 omega
theorem c_hexed {l : Bs} {i : Nat} {sb bb cap : Nat} {sp : List Value} {a : Int} {so v : SV} {c0 d0 : UInt8} (hcap : l.length ≤ cap) (hl : l.length ≤ 1048576) (hc0 : l[i]? = some c0) (hd0 : l[i + 1]? = some d0) (out : Bs) (ho : out.length ≤ 1099511627776) : ∀ F w, Sat ([Cl sb 134 [Sl bb l.length cap, Iv a, slV so], Cl bb 5 (l.map u8v ++ sp), BY v out] ++ F) w → Calls prog 209 [ptr sb, Iv i, slV v].toArray w fun e w' => ∃ v' : SV, e = .returned (.tuple #[Iv (((hexedR l i).1 : Nat) : Int), slV v', .bool (hexedR l i).2.2]) ∧ Sat ([Cl sb 134 [Sl bb l.length cap, Iv a, slV so], Cl bb 5 (l.map u8v ++ sp), BY v' (out ++ (hexedR l i).2.1)] ++ F) w' := by
 intro F
 have hil : i + 1 < l.length := (List.getElem?_eq_some_iff.1 hd0).1
 refine calls_of_WC (fn := f209) func209 rfl rfl (Sr (Av (Iv 0) (Av (.slice none 0 0) (Av (.bool false) (Nz (Mv (ptr sb) (Mv (Iv i) (Bo (Iv i) (Iv 2) (Iv (((i + 2 : Nat) : Int))) eqg_int (bin_addN rfl (by omega)) (WL_callQ (Δ := [Cl sb 134 [Sl bb l.length cap, Iv a, slV so], Cl bb 5 (l.map u8v ++ sp)]) (v := .bool (hasB l (i + 2) [123])) call162 rfl (c_has (i := i + 2) (x := [123]) hcap (by omega) (by decide) (by omega)) (K2 Z0 Z0) (WL_rd (rd_not (b := hasB l (i + 2) [123]) rfl) (Nt ?_)))))))))))
 cases hb1 : (!(hasB l (i + 2) [123]))
 rotate_left 1
 · have hh : hasB l (i + 2) [123] = false := by have h9 := hb1; simpa using h9
   refine Ts (Mv (Iv i) (Mv (slV v) (Av (Iv i) (Av (slV v) (Av (.bool false) (Nr (At_thenR ?_)))))))
   have e8 : hexedR l i = (i, [], false) := by unfold hexedR hexedB; rw [hh]; rfl
   refine At_ret3 results209 (fun w q => ⟨v, ?_, ?_⟩)
   · rw [e8]; try rfl
   rw [e8, List.append_nil]; exact q.mono (E3 Z0 Z0 Z0)
 have hh : hasB l (i + 2) [123] = true := by have h9 := hb1; simpa using h9
 have hl3 := hasB_len hh (by decide)
 simp only [List.length_cons, List.length_nil] at hl3
 refine Fx (Mv (Iv i) (Bo (Iv i) (Iv 3) (Iv (((i + 3 : Nat) : Int))) eqg_int (bin_addN rfl (by omega)) (Av (Iv ((i + 3 : Nat) : Int)) (Av (Iv 0) (Nt (WC_seq (WC_block (WC_loopF (α := Nat × Nat) (fun x => i + 3 ≤ x.1 ∧ x.1 ≤ i + 9 ∧ x.1 ≤ l.length ∧ hexRun l 6 (i + 3) 0 = hexRun l (i + 9 - x.1) x.1 x.2 ∧ x.2 < 16 ^ (x.1 - (i + 3))) (fun x => [(0, ptr sb), (1, Iv i), (2, slV v), (9, Iv x.1), (10, Iv x.2)]) (fun x => Cl sb 134 [Sl bb l.length cap, Iv a, slV so] :: Cl bb 5 (l.map u8v ++ sp) :: BY v out :: F) (fun x => i + 9 - x.1) ((i + 3), 0) (show i + 3 ≤ (i + 3) ∧ (i + 3) ≤ i + 9 ∧ (i + 3) ≤ l.length ∧ hexRun l 6 (i + 3) 0 = hexRun l (i + 9 - (i + 3)) (i + 3) 0 ∧ 0 < 16 ^ ((i + 3) - (i + 3)) from ⟨Nat.le_refl _, by omega, by omega, by rw [show i + 9 - (i + 3) = 6 by omega], by rw [Nat.sub_self]; decide⟩) ⟨rfl, rfl, rfl, rfl, rfl, trivial⟩ (E3 Z0 Z0 Z0) ?_))))))))
 rintro ⟨k, vv⟩ σ hpre
 replace hpre : i + 3 ≤ k ∧ k ≤ i + 9 ∧ k ≤ l.length ∧ hexRun l 6 (i + 3) 0 = hexRun l (i + 9 - k) k vv ∧ vv < 16 ^ (k - (i + 3)) := hpre
 obtain ⟨hp1, hp2, hp2', hp3, hp4⟩ := id hpre
 show WC prog _ _ _ (upds σ [(0, ptr sb), (1, Iv i), (2, slV v), (9, Iv k), (10, Iv vv)]) _ (Cl sb 134 [Sl bb l.length cap, Iv a, slV so] :: Cl bb 5 (l.map u8v ++ sp) :: BY v out :: F)
 refine Sz (Mv (Iv k) (Mv (ptr sb) (Nc sb 0 (Fa sb 0 fa134_0 (Lo sb 0 (Sl bb l.length cap) isAgg22 Z0 rfl (WL_rd (rd_lenS (a := some ⟨bb, 0, none⟩) (k := l.length) runUnderlying22 rfl) (Bo (Iv k) (Iv l.length) (.bool (decide (((k : Nat) : Int) < ((l.length : Nat) : Int)))) eqg_int (binOp_lss _ _ _ _) (Mv (.bool (decide (((k : Nat) : Int) < ((l.length : Nat) : Int)))) ?_))))))))
 cases hb2 : (decide (((k : Nat) : Int) < ((l.length : Nat) : Int)))
 · have hkl : l.length ≤ k := by have h9 := hb2; simp only [decide_eq_false_iff_not] at h9; omega
   have hR : hexRun l 6 (i + 3) 0 = (k, vv) := hp3.trans (hexRun_end (.inr hkl))
   refine Pa false 28 (Pa false 28 (Pa false 28 (Pa false 28 (Pk false (Nt (WC_false rfl (WC_exit (At_thenX (At_loopX (At_blockX (At_then (Sz (Mv (Iv k) (Mv (Iv i) (Bo (Iv i) (Iv 3) (Iv (((i + 3 : Nat) : Int))) eqg_int (bin_addN rfl (by omega)) (Bo (Iv k) (Iv ((i + 3 : Nat) : Int)) (.bool (((k : Nat) : Int) == ((i + 3 : Nat) : Int))) eqg_int (binOp_eql _ _ _ _) (Mv (.bool (((k : Nat) : Int) == ((i + 3 : Nat) : Int))) ?_)))))))))))))))))
   cases hb3 : (((k : Nat) : Int) == ((i + 3 : Nat) : Int))
   rotate_left 1
   · refine Pa true 65 (Pa true 65 (Pa true 65 (Pa true 65 (Pk true (Mv (.bool true) (Pa true 71 (Pa true 71 (Pk true (Mv (.bool true) (Pa true 75 (Pa true 75 (Pa true 75 (WL_passU (e := 78) rfl rfl (WL_passU (e := 78) rfl rfl (Pa true 75 (Pk true (Nt (Ts (Mv (Iv i) (Mv (slV v) (Av (Iv i) (Av (slV v) (Av (.bool false) (Nr (At_thenR ?_)))))))))))))))))))))))))
     have hcnd : (k == i + 3 || !hasB l k [125] || decide (vv > 1114111) || (decide (vv ≥ 55296) && decide (vv ≤ 57343))) = true := by
      simp only [beq_iff_eq, beq_eq_false_iff_ne, ne_eq, decide_eq_true_eq, decide_eq_false_iff_not, ge_iff_le, gt_iff_lt, Bool.not_eq_true', Bool.not_eq_false'] at hb3
      simp only [Bool.or_eq_true, Bool.and_eq_true, beq_iff_eq, decide_eq_true_eq, Bool.not_eq_true', ge_iff_le, gt_iff_lt]; first | exact .inl (.inl (.inl (by omega))) | exact .inl (.inl (.inr (by assumption))) | exact .inl (.inr (by omega)) | exact .inr ⟨by omega, by omega⟩
     have e8 : hexedR l i = (i, [], false) := by unfold hexedR hexedB; rw [hh]; simp only [Bool.not_true, cond_false, hR, hcnd, cond_true]
     refine At_ret3 results209 (fun w q => ⟨v, ?_, ?_⟩)
     · rw [e8]; try rfl
     rw [e8, List.append_nil]; exact q.mono (E3 Z0 Z0 Z0)
   refine Ta false 65 (Mv (ptr sb) (Ta false 65 (Mv (Iv k) (Ta false 65 (WL_callQ (Δ := [Cl sb 134 [Sl bb l.length cap, Iv a, slV so], Cl bb 5 (l.map u8v ++ sp)]) (v := .bool (hasB l k [125])) call162 rfl (c_has (i := k) (x := [125]) hcap (by omega) (by decide) (by omega)) (K2 Z0 Z0) (Ta false 65 (WL_rd (rd_not (b := hasB l k [125]) rfl) (Pk false (Mv (.bool (!(hasB l k [125]))) ?_)))))))))
   cases hb4 : (!(hasB l k [125]))
   rotate_left 1
   · refine Pa true 71 (Pa true 71 (Pk true (Mv (.bool true) (Pa true 75 (Pa true 75 (Pa true 75 (WL_passU (e := 78) rfl rfl (WL_passU (e := 78) rfl rfl (Pa true 75 (Pk true (Nt (Ts (Mv (Iv i) (Mv (slV v) (Av (Iv i) (Av (slV v) (Av (.bool false) (Nr (At_thenR ?_)))))))))))))))))))
     have hcnd : (k == i + 3 || !hasB l k [125] || decide (vv > 1114111) || (decide (vv ≥ 55296) && decide (vv ≤ 57343))) = true := by
      simp only [beq_iff_eq, beq_eq_false_iff_ne, ne_eq, decide_eq_true_eq, decide_eq_false_iff_not, ge_iff_le, gt_iff_lt, Bool.not_eq_true', Bool.not_eq_false'] at hb3 hb4
      simp only [Bool.or_eq_true, Bool.and_eq_true, beq_iff_eq, decide_eq_true_eq, Bool.not_eq_true', ge_iff_le, gt_iff_lt]; first | exact .inl (.inl (.inl (by omega))) | exact .inl (.inl (.inr (by assumption))) | exact .inl (.inr (by omega)) | exact .inr ⟨by omega, by omega⟩
     have e8 : hexedR l i = (i, [], false) := by unfold hexedR hexedB; rw [hh]; simp only [Bool.not_true, cond_false, hR, hcnd, cond_true]
     refine At_ret3 results209 (fun w q => ⟨v, ?_, ?_⟩)
     · rw [e8]; try rfl
     rw [e8, List.append_nil]; exact q.mono (E3 Z0 Z0 Z0)
   refine Ta false 71 (Mv (Iv vv) (Ta false 71 (Bo (Iv vv) (Iv 1114111) (.bool (decide (((vv : Nat) : Int) > 1114111))) eqg_int (binOp_gtr _ _ _ _) (Pk false (Mv (.bool (decide (((vv : Nat) : Int) > 1114111))) ?_)))))
   cases hb5 : (decide (((vv : Nat) : Int) > 1114111))
   rotate_left 1
   · refine Pa true 75 (Pa true 75 (Pa true 75 (WL_passU (e := 78) rfl rfl (WL_passU (e := 78) rfl rfl (Pa true 75 (Pk true (Nt (Ts (Mv (Iv i) (Mv (slV v) (Av (Iv i) (Av (slV v) (Av (.bool false) (Nr (At_thenR ?_)))))))))))))))
     have hcnd : (k == i + 3 || !hasB l k [125] || decide (vv > 1114111) || (decide (vv ≥ 55296) && decide (vv ≤ 57343))) = true := by
      simp only [beq_iff_eq, beq_eq_false_iff_ne, ne_eq, decide_eq_true_eq, decide_eq_false_iff_not, ge_iff_le, gt_iff_lt, Bool.not_eq_true', Bool.not_eq_false'] at hb3 hb4 hb5
      simp only [Bool.or_eq_true, Bool.and_eq_true, beq_iff_eq, decide_eq_true_eq, Bool.not_eq_true', ge_iff_le, gt_iff_lt]; first | exact .inl (.inl (.inl (by omega))) | exact .inl (.inl (.inr (by assumption))) | exact .inl (.inr (by omega)) | exact .inr ⟨by omega, by omega⟩
     have e8 : hexedR l i = (i, [], false) := by unfold hexedR hexedB; rw [hh]; simp only [Bool.not_true, cond_false, hR, hcnd, cond_true]
     refine At_ret3 results209 (fun w q => ⟨v, ?_, ?_⟩)
     · rw [e8]; try rfl
     rw [e8, List.append_nil]; exact q.mono (E3 Z0 Z0 Z0)
   refine Ta false 75 (Mv (Iv vv) (Ta false 75 (Bo (Iv vv) (Iv 55296) (.bool (decide (((vv : Nat) : Int) ≥ 55296))) eqg_int (binOp_geq _ _ _ _) (Ta false 75 (Mv (.bool (decide (((vv : Nat) : Int) ≥ 55296))) ?_)))))
   cases hb6 : (decide (((vv : Nat) : Int) ≥ 55296))
   · refine Pa false 78 (Pa false 78 (Ta false 75 (Pk false (Pk false (Nt (Fx (Mv (Iv k) (Bo (Iv k) (Iv 1) (Iv (((k + 1 : Nat) : Int))) eqg_int (bin_addN rfl (by omega)) (Mv (slV v) (Mv (Iv vv) (WL_rd (rd_conv (a := ((vv : Nat) : Int)) (q := .i32) rfl underlying3 underlying21 (IntWalk.i32_in _ (by simp only [decide_eq_true_eq, decide_eq_false_iff_not, ge_iff_le, gt_iff_lt] at hb5 hb6; omega))) (WL_rd (rd_rune (r := vv) rfl (by simp only [decide_eq_true_eq, decide_eq_false_iff_not, ge_iff_le, gt_iff_lt] at hb5 hb6; omega) (by simp only [decide_eq_true_eq, decide_eq_false_iff_not, ge_iff_le, gt_iff_lt] at hb5 hb6; omega)) (WL_ef (ef_appBs (s := out) (a := (runeBs vv)) rfl rfl Z2 (by have := runeBs_len vv; omega)) fun v7 => Av (Iv ((k + 1 : Nat) : Int)) (Av (slV v7) (Av (.bool true) (Nr ?_))))))))))))))))
     have hcnd : (k == i + 3 || !hasB l k [125] || decide (vv > 1114111) || (decide (vv ≥ 55296) && decide (vv ≤ 57343))) = false := by
      simp only [beq_iff_eq, beq_eq_false_iff_ne, ne_eq, decide_eq_true_eq, decide_eq_false_iff_not, ge_iff_le, gt_iff_lt, Bool.not_eq_true', Bool.not_eq_false'] at hb3 hb4 hb5 hb6
      simp only [Bool.or_eq_false_iff, Bool.and_eq_false_iff, beq_eq_false_iff_ne, ne_eq, decide_eq_false_iff_not, Bool.not_eq_false', ge_iff_le, gt_iff_lt, and_assoc]; first | (refine ⟨by omega, by assumption, by omega, ?_⟩; omega) | (refine ⟨by omega, by assumption, by omega, ?_⟩; exact .inl (by omega))
     have e8 : hexedR l i = (k + 1, runeBs vv, true) := by unfold hexedR hexedB; rw [hh]; simp only [Bool.not_true, cond_false, hR, hcnd]
     refine At_ret3 results209 (fun w q => ⟨v7, ?_, ?_⟩)
     · rw [e8]; try rfl
     rw [e8]; exact q.mono (E3 Z1 Z1 Z0)
   refine Ta true 78 (Mv (Iv vv) (Ta true 78 (Bo (Iv vv) (Iv 57343) (.bool (decide (((vv : Nat) : Int) ≤ 57343))) eqg_int (binOp_leq _ _ _ _) (Ta false 75 (Pk true (Pk false (Nt ?_)))))))
   cases hb8 : (decide (((vv : Nat) : Int) ≤ 57343))
   rotate_left 1
   · refine Ts (Mv (Iv i) (Mv (slV v) (Av (Iv i) (Av (slV v) (Av (.bool false) (Nr (At_thenR ?_)))))))
     have hcnd : (k == i + 3 || !hasB l k [125] || decide (vv > 1114111) || (decide (vv ≥ 55296) && decide (vv ≤ 57343))) = true := by
      simp only [beq_iff_eq, beq_eq_false_iff_ne, ne_eq, decide_eq_true_eq, decide_eq_false_iff_not, ge_iff_le, gt_iff_lt, Bool.not_eq_true', Bool.not_eq_false'] at hb3 hb4 hb5 hb6 hb8
      simp only [Bool.or_eq_true, Bool.and_eq_true, beq_iff_eq, decide_eq_true_eq, Bool.not_eq_true', ge_iff_le, gt_iff_lt]; first | exact .inl (.inl (.inl (by omega))) | exact .inl (.inl (.inr (by assumption))) | exact .inl (.inr (by omega)) | exact .inr ⟨by omega, by omega⟩
     have e8 : hexedR l i = (i, [], false) := by unfold hexedR hexedB; rw [hh]; simp only [Bool.not_true, cond_false, hR, hcnd, cond_true]
     refine At_ret3 results209 (fun w q => ⟨v, ?_, ?_⟩)
     · rw [e8]; try rfl
     rw [e8, List.append_nil]; exact q.mono (E3 Z0 Z0 Z0)
   refine Fx (Mv (Iv k) (Bo (Iv k) (Iv 1) (Iv (((k + 1 : Nat) : Int))) eqg_int (bin_addN rfl (by omega)) (Mv (slV v) (Mv (Iv vv) (WL_rd (rd_conv (a := ((vv : Nat) : Int)) (q := .i32) rfl underlying3 underlying21 (IntWalk.i32_in _ (by simp only [decide_eq_true_eq, decide_eq_false_iff_not, ge_iff_le, gt_iff_lt] at hb5 hb6 hb8; omega))) (WL_rd (rd_rune (r := vv) rfl (by simp only [decide_eq_true_eq, decide_eq_false_iff_not, ge_iff_le, gt_iff_lt] at hb5 hb6 hb8; omega) (by simp only [decide_eq_true_eq, decide_eq_false_iff_not, ge_iff_le, gt_iff_lt] at hb5 hb6 hb8; omega)) (WL_ef (ef_appBs (s := out) (a := (runeBs vv)) rfl rfl Z2 (by have := runeBs_len vv; omega)) fun v9 => Av (Iv ((k + 1 : Nat) : Int)) (Av (slV v9) (Av (.bool true) (Nr ?_))))))))))
   have hcnd : (k == i + 3 || !hasB l k [125] || decide (vv > 1114111) || (decide (vv ≥ 55296) && decide (vv ≤ 57343))) = false := by
    simp only [beq_iff_eq, beq_eq_false_iff_ne, ne_eq, decide_eq_true_eq, decide_eq_false_iff_not, ge_iff_le, gt_iff_lt, Bool.not_eq_true', Bool.not_eq_false'] at hb3 hb4 hb5 hb6 hb8
    simp only [Bool.or_eq_false_iff, Bool.and_eq_false_iff, beq_eq_false_iff_ne, ne_eq, decide_eq_false_iff_not, Bool.not_eq_false', ge_iff_le, gt_iff_lt, and_assoc]; first | (refine ⟨by omega, by assumption, by omega, ?_⟩; omega) | (refine ⟨by omega, by assumption, by omega, ?_⟩; exact .inl (by omega))
   have e8 : hexedR l i = (k + 1, runeBs vv, true) := by unfold hexedR hexedB; rw [hh]; simp only [Bool.not_true, cond_false, hR, hcnd]
   refine At_ret3 results209 (fun w q => ⟨v9, ?_, ?_⟩)
   · rw [e8]; try rfl
   rw [e8]; exact q.mono (E3 Z1 Z1 Z0)
 have hkl : k < l.length := by have h9 := hb2; simp only [decide_eq_true_eq] at h9; omega
 refine Ta true 28 (Mv (Iv k) (Ta true 28 (Mv (Iv i) (Ta true 28 (Bo (Iv i) (Iv 9) (Iv (((i + 9 : Nat) : Int))) eqg_int (bin_addN rfl (by omega)) (Ta true 28 (Bo (Iv k) (Iv ((i + 9 : Nat) : Int)) (.bool (decide (((k : Nat) : Int) < ((i + 9 : Nat) : Int)))) eqg_int (binOp_lss _ _ _ _) (Pk true (Nt ?_)))))))))
 cases hb10 : (decide (((k : Nat) : Int) < ((i + 9 : Nat) : Int)))
 · have hk9 : i + 9 ≤ k := by have h9 := hb10; simp only [decide_eq_false_iff_not] at h9; omega
   have hR : hexRun l 6 (i + 3) 0 = (k, vv) := hp3.trans (hexRun_end (.inl (by omega)))
   refine WC_false rfl (WC_exit (At_thenX (At_loopX (At_blockX (At_then (Sz (Mv (Iv k) (Mv (Iv i) (Bo (Iv i) (Iv 3) (Iv (((i + 3 : Nat) : Int))) eqg_int (bin_addN rfl (by omega)) (Bo (Iv k) (Iv ((i + 3 : Nat) : Int)) (.bool (((k : Nat) : Int) == ((i + 3 : Nat) : Int))) eqg_int (binOp_eql _ _ _ _) (Mv (.bool (((k : Nat) : Int) == ((i + 3 : Nat) : Int))) ?_)))))))))))
   cases hb11 : (((k : Nat) : Int) == ((i + 3 : Nat) : Int))
   rotate_left 1
   · refine Pa true 65 (Pa true 65 (Pa true 65 (Pa true 65 (Pk true (Mv (.bool true) (Pa true 71 (Pa true 71 (Pk true (Mv (.bool true) (Pa true 75 (Pa true 75 (Pa true 75 (WL_passU (e := 78) rfl rfl (WL_passU (e := 78) rfl rfl (Pa true 75 (Pk true (Nt (Ts (Mv (Iv i) (Mv (slV v) (Av (Iv i) (Av (slV v) (Av (.bool false) (Nr (At_thenR ?_)))))))))))))))))))))))))
     have hcnd : (k == i + 3 || !hasB l k [125] || decide (vv > 1114111) || (decide (vv ≥ 55296) && decide (vv ≤ 57343))) = true := by
      simp only [beq_iff_eq, beq_eq_false_iff_ne, ne_eq, decide_eq_true_eq, decide_eq_false_iff_not, ge_iff_le, gt_iff_lt, Bool.not_eq_true', Bool.not_eq_false'] at hb11
      simp only [Bool.or_eq_true, Bool.and_eq_true, beq_iff_eq, decide_eq_true_eq, Bool.not_eq_true', ge_iff_le, gt_iff_lt]; first | exact .inl (.inl (.inl (by omega))) | exact .inl (.inl (.inr (by assumption))) | exact .inl (.inr (by omega)) | exact .inr ⟨by omega, by omega⟩
     have e8 : hexedR l i = (i, [], false) := by unfold hexedR hexedB; rw [hh]; simp only [Bool.not_true, cond_false, hR, hcnd, cond_true]
     refine At_ret3 results209 (fun w q => ⟨v, ?_, ?_⟩)
     · rw [e8]; try rfl
     rw [e8, List.append_nil]; exact q.mono (E3 Z0 Z0 Z0)
   refine Ta false 65 (Mv (ptr sb) (Ta false 65 (Mv (Iv k) (Ta false 65 (WL_callQ (Δ := [Cl sb 134 [Sl bb l.length cap, Iv a, slV so], Cl bb 5 (l.map u8v ++ sp)]) (v := .bool (hasB l k [125])) call162 rfl (c_has (i := k) (x := [125]) hcap (by omega) (by decide) (by omega)) (K2 Z0 Z0) (Ta false 65 (WL_rd (rd_not (b := hasB l k [125]) rfl) (Pk false (Mv (.bool (!(hasB l k [125]))) ?_)))))))))
   cases hb12 : (!(hasB l k [125]))
   rotate_left 1
   · refine Pa true 71 (Pa true 71 (Pk true (Mv (.bool true) (Pa true 75 (Pa true 75 (Pa true 75 (WL_passU (e := 78) rfl rfl (WL_passU (e := 78) rfl rfl (Pa true 75 (Pk true (Nt (Ts (Mv (Iv i) (Mv (slV v) (Av (Iv i) (Av (slV v) (Av (.bool false) (Nr (At_thenR ?_)))))))))))))))))))
     have hcnd : (k == i + 3 || !hasB l k [125] || decide (vv > 1114111) || (decide (vv ≥ 55296) && decide (vv ≤ 57343))) = true := by
      simp only [beq_iff_eq, beq_eq_false_iff_ne, ne_eq, decide_eq_true_eq, decide_eq_false_iff_not, ge_iff_le, gt_iff_lt, Bool.not_eq_true', Bool.not_eq_false'] at hb11 hb12
      simp only [Bool.or_eq_true, Bool.and_eq_true, beq_iff_eq, decide_eq_true_eq, Bool.not_eq_true', ge_iff_le, gt_iff_lt]; first | exact .inl (.inl (.inl (by omega))) | exact .inl (.inl (.inr (by assumption))) | exact .inl (.inr (by omega)) | exact .inr ⟨by omega, by omega⟩
     have e8 : hexedR l i = (i, [], false) := by unfold hexedR hexedB; rw [hh]; simp only [Bool.not_true, cond_false, hR, hcnd, cond_true]
     refine At_ret3 results209 (fun w q => ⟨v, ?_, ?_⟩)
     · rw [e8]; try rfl
     rw [e8, List.append_nil]; exact q.mono (E3 Z0 Z0 Z0)
   refine Ta false 71 (Mv (Iv vv) (Ta false 71 (Bo (Iv vv) (Iv 1114111) (.bool (decide (((vv : Nat) : Int) > 1114111))) eqg_int (binOp_gtr _ _ _ _) (Pk false (Mv (.bool (decide (((vv : Nat) : Int) > 1114111))) ?_)))))
   cases hb13 : (decide (((vv : Nat) : Int) > 1114111))
   rotate_left 1
   · refine Pa true 75 (Pa true 75 (Pa true 75 (WL_passU (e := 78) rfl rfl (WL_passU (e := 78) rfl rfl (Pa true 75 (Pk true (Nt (Ts (Mv (Iv i) (Mv (slV v) (Av (Iv i) (Av (slV v) (Av (.bool false) (Nr (At_thenR ?_)))))))))))))))
     have hcnd : (k == i + 3 || !hasB l k [125] || decide (vv > 1114111) || (decide (vv ≥ 55296) && decide (vv ≤ 57343))) = true := by
      simp only [beq_iff_eq, beq_eq_false_iff_ne, ne_eq, decide_eq_true_eq, decide_eq_false_iff_not, ge_iff_le, gt_iff_lt, Bool.not_eq_true', Bool.not_eq_false'] at hb11 hb12 hb13
      simp only [Bool.or_eq_true, Bool.and_eq_true, beq_iff_eq, decide_eq_true_eq, Bool.not_eq_true', ge_iff_le, gt_iff_lt]; first | exact .inl (.inl (.inl (by omega))) | exact .inl (.inl (.inr (by assumption))) | exact .inl (.inr (by omega)) | exact .inr ⟨by omega, by omega⟩
     have e8 : hexedR l i = (i, [], false) := by unfold hexedR hexedB; rw [hh]; simp only [Bool.not_true, cond_false, hR, hcnd, cond_true]
     refine At_ret3 results209 (fun w q => ⟨v, ?_, ?_⟩)
     · rw [e8]; try rfl
     rw [e8, List.append_nil]; exact q.mono (E3 Z0 Z0 Z0)
   refine Ta false 75 (Mv (Iv vv) (Ta false 75 (Bo (Iv vv) (Iv 55296) (.bool (decide (((vv : Nat) : Int) ≥ 55296))) eqg_int (binOp_geq _ _ _ _) (Ta false 75 (Mv (.bool (decide (((vv : Nat) : Int) ≥ 55296))) ?_)))))
   cases hb14 : (decide (((vv : Nat) : Int) ≥ 55296))
   · refine Pa false 78 (Pa false 78 (Ta false 75 (Pk false (Pk false (Nt (Fx (Mv (Iv k) (Bo (Iv k) (Iv 1) (Iv (((k + 1 : Nat) : Int))) eqg_int (bin_addN rfl (by omega)) (Mv (slV v) (Mv (Iv vv) (WL_rd (rd_conv (a := ((vv : Nat) : Int)) (q := .i32) rfl underlying3 underlying21 (IntWalk.i32_in _ (by simp only [decide_eq_true_eq, decide_eq_false_iff_not, ge_iff_le, gt_iff_lt] at hb13 hb14; omega))) (WL_rd (rd_rune (r := vv) rfl (by simp only [decide_eq_true_eq, decide_eq_false_iff_not, ge_iff_le, gt_iff_lt] at hb13 hb14; omega) (by simp only [decide_eq_true_eq, decide_eq_false_iff_not, ge_iff_le, gt_iff_lt] at hb13 hb14; omega)) (WL_ef (ef_appBs (s := out) (a := (runeBs vv)) rfl rfl Z2 (by have := runeBs_len vv; omega)) fun v15 => Av (Iv ((k + 1 : Nat) : Int)) (Av (slV v15) (Av (.bool true) (Nr ?_))))))))))))))))
     have hcnd : (k == i + 3 || !hasB l k [125] || decide (vv > 1114111) || (decide (vv ≥ 55296) && decide (vv ≤ 57343))) = false := by
      simp only [beq_iff_eq, beq_eq_false_iff_ne, ne_eq, decide_eq_true_eq, decide_eq_false_iff_not, ge_iff_le, gt_iff_lt, Bool.not_eq_true', Bool.not_eq_false'] at hb11 hb12 hb13 hb14
      simp only [Bool.or_eq_false_iff, Bool.and_eq_false_iff, beq_eq_false_iff_ne, ne_eq, decide_eq_false_iff_not, Bool.not_eq_false', ge_iff_le, gt_iff_lt, and_assoc]; first | (refine ⟨by omega, by assumption, by omega, ?_⟩; omega) | (refine ⟨by omega, by assumption, by omega, ?_⟩; exact .inl (by omega))
     have e8 : hexedR l i = (k + 1, runeBs vv, true) := by unfold hexedR hexedB; rw [hh]; simp only [Bool.not_true, cond_false, hR, hcnd]
     refine At_ret3 results209 (fun w q => ⟨v15, ?_, ?_⟩)
     · rw [e8]; try rfl
     rw [e8]; exact q.mono (E3 Z1 Z1 Z0)
   refine Ta true 78 (Mv (Iv vv) (Ta true 78 (Bo (Iv vv) (Iv 57343) (.bool (decide (((vv : Nat) : Int) ≤ 57343))) eqg_int (binOp_leq _ _ _ _) (Ta false 75 (Pk true (Pk false (Nt ?_)))))))
   cases hb16 : (decide (((vv : Nat) : Int) ≤ 57343))
   rotate_left 1
   · refine Ts (Mv (Iv i) (Mv (slV v) (Av (Iv i) (Av (slV v) (Av (.bool false) (Nr (At_thenR ?_)))))))
     have hcnd : (k == i + 3 || !hasB l k [125] || decide (vv > 1114111) || (decide (vv ≥ 55296) && decide (vv ≤ 57343))) = true := by
      simp only [beq_iff_eq, beq_eq_false_iff_ne, ne_eq, decide_eq_true_eq, decide_eq_false_iff_not, ge_iff_le, gt_iff_lt, Bool.not_eq_true', Bool.not_eq_false'] at hb11 hb12 hb13 hb14 hb16
      simp only [Bool.or_eq_true, Bool.and_eq_true, beq_iff_eq, decide_eq_true_eq, Bool.not_eq_true', ge_iff_le, gt_iff_lt]; first | exact .inl (.inl (.inl (by omega))) | exact .inl (.inl (.inr (by assumption))) | exact .inl (.inr (by omega)) | exact .inr ⟨by omega, by omega⟩
     have e8 : hexedR l i = (i, [], false) := by unfold hexedR hexedB; rw [hh]; simp only [Bool.not_true, cond_false, hR, hcnd, cond_true]
     refine At_ret3 results209 (fun w q => ⟨v, ?_, ?_⟩)
     · rw [e8]; try rfl
     rw [e8, List.append_nil]; exact q.mono (E3 Z0 Z0 Z0)
   refine Fx (Mv (Iv k) (Bo (Iv k) (Iv 1) (Iv (((k + 1 : Nat) : Int))) eqg_int (bin_addN rfl (by omega)) (Mv (slV v) (Mv (Iv vv) (WL_rd (rd_conv (a := ((vv : Nat) : Int)) (q := .i32) rfl underlying3 underlying21 (IntWalk.i32_in _ (by simp only [decide_eq_true_eq, decide_eq_false_iff_not, ge_iff_le, gt_iff_lt] at hb13 hb14 hb16; omega))) (WL_rd (rd_rune (r := vv) rfl (by simp only [decide_eq_true_eq, decide_eq_false_iff_not, ge_iff_le, gt_iff_lt] at hb13 hb14 hb16; omega) (by simp only [decide_eq_true_eq, decide_eq_false_iff_not, ge_iff_le, gt_iff_lt] at hb13 hb14 hb16; omega)) (WL_ef (ef_appBs (s := out) (a := (runeBs vv)) rfl rfl Z2 (by have := runeBs_len vv; omega)) fun v17 => Av (Iv ((k + 1 : Nat) : Int)) (Av (slV v17) (Av (.bool true) (Nr ?_))))))))))
   have hcnd : (k == i + 3 || !hasB l k [125] || decide (vv > 1114111) || (decide (vv ≥ 55296) && decide (vv ≤ 57343))) = false := by
    simp only [beq_iff_eq, beq_eq_false_iff_ne, ne_eq, decide_eq_true_eq, decide_eq_false_iff_not, ge_iff_le, gt_iff_lt, Bool.not_eq_true', Bool.not_eq_false'] at hb11 hb12 hb13 hb14 hb16
    simp only [Bool.or_eq_false_iff, Bool.and_eq_false_iff, beq_eq_false_iff_ne, ne_eq, decide_eq_false_iff_not, Bool.not_eq_false', ge_iff_le, gt_iff_lt, and_assoc]; first | (refine ⟨by omega, by assumption, by omega, ?_⟩; omega) | (refine ⟨by omega, by assumption, by omega, ?_⟩; exact .inl (by omega))
   have e8 : hexedR l i = (k + 1, runeBs vv, true) := by unfold hexedR hexedB; rw [hh]; simp only [Bool.not_true, cond_false, hR, hcnd]
   refine At_ret3 results209 (fun w q => ⟨v17, ?_, ?_⟩)
   · rw [e8]; try rfl
   rw [e8]; exact q.mono (E3 Z1 Z1 Z0)
 have hk9 : k < i + 9 := by have h9 := hb10; simp only [decide_eq_true_eq] at h9; omega
 obtain ⟨c, hck⟩ : ∃ c, l[k]? = some c := ⟨l[k]'hkl, List.getElem?_eq_getElem _⟩
 refine WC_true rfl (WC_skip (At_then (WC_seq (WC_block (Sr (Mv (ptr sb) (Nc sb 0 (Fa sb 0 fa134_0 (Lo sb 0 (Sl bb l.length cap) isAgg22 Z0 rfl (Mv (Iv k) (WL_rd (rd_idx1 (j := k) runUnderlying22 sizeOf5 rfl rfl (by omega) (by omega)) (Lo bb k (u8v c) isAgg5 Z1 (bytes_get hck) (Bo (u8v c) (.int .u8 32) (u8v (UInt8.ofNat (c.toNat ||| 32))) eqg_int (bin_or8 c) (WL_callQ (Δ := []) (v := Iv (Lib.indexByte HEX (UInt8.ofNat (c.toNat ||| 32)))) call161 rfl (c_indexByte HEX (UInt8.ofNat (c.toNat ||| 32))) (.nil) (Av (Iv (Lib.indexByte HEX (UInt8.ofNat (c.toNat ||| 32)))) (Nz (Mv (Iv (Lib.indexByte HEX (UInt8.ofNat (c.toNat ||| 32)))) (Bo (Iv (Lib.indexByte HEX (UInt8.ofNat (c.toNat ||| 32)))) (Iv 0) (.bool (decide ((Lib.indexByte HEX (UInt8.ofNat (c.toNat ||| 32))) < 0))) eqg_int (binOp_lss _ _ _ _) (Mv (.bool (decide ((Lib.indexByte HEX (UInt8.ofNat (c.toNat ||| 32))) < 0))) ?_)))))))))))))))))))
 cases hb18 : (decide ((Lib.indexByte HEX (UInt8.ofNat (c.toNat ||| 32))) < 0))
 rotate_left 1
 · have hx1 : Lib.indexByte HEX (UInt8.ofNat (c.toNat ||| 32)) < 0 := by have h9 := hb18; simpa using h9
   have hR : hexRun l 6 (i + 3) 0 = (k, vv) := hp3.trans (hexRun_stop hck (hex_none1 hx1))
   refine Pa true 47 (Pa true 47 (Pa true 47 (Pa true 47 (Pa true 47 (Pa true 47 (Pa true 47 (Pa true 47 (Pk true (Nt (WC_true rfl (WC_exit (At_thenX (At_blockY rfl (At_thenX (At_loopX (At_blockX (At_then (Sz (Mv (Iv k) (Mv (Iv i) (Bo (Iv i) (Iv 3) (Iv (((i + 3 : Nat) : Int))) eqg_int (bin_addN rfl (by omega)) (Bo (Iv k) (Iv ((i + 3 : Nat) : Int)) (.bool (((k : Nat) : Int) == ((i + 3 : Nat) : Int))) eqg_int (binOp_eql _ _ _ _) (Mv (.bool (((k : Nat) : Int) == ((i + 3 : Nat) : Int))) ?_)))))))))))))))))))))))
   cases hb27 : (((k : Nat) : Int) == ((i + 3 : Nat) : Int))
   rotate_left 1
   · refine Pa true 65 (Pa true 65 (Pa true 65 (Pa true 65 (Pk true (Mv (.bool true) (Pa true 71 (Pa true 71 (Pk true (Mv (.bool true) (Pa true 75 (Pa true 75 (Pa true 75 (WL_passU (e := 78) rfl rfl (WL_passU (e := 78) rfl rfl (Pa true 75 (Pk true (Nt (Ts (Mv (Iv i) (Mv (slV v) (Av (Iv i) (Av (slV v) (Av (.bool false) (Nr (At_thenR ?_)))))))))))))))))))))))))
     have hcnd : (k == i + 3 || !hasB l k [125] || decide (vv > 1114111) || (decide (vv ≥ 55296) && decide (vv ≤ 57343))) = true := by
      simp only [beq_iff_eq, beq_eq_false_iff_ne, ne_eq, decide_eq_true_eq, decide_eq_false_iff_not, ge_iff_le, gt_iff_lt, Bool.not_eq_true', Bool.not_eq_false'] at hb27
      simp only [Bool.or_eq_true, Bool.and_eq_true, beq_iff_eq, decide_eq_true_eq, Bool.not_eq_true', ge_iff_le, gt_iff_lt]; first | exact .inl (.inl (.inl (by omega))) | exact .inl (.inl (.inr (by assumption))) | exact .inl (.inr (by omega)) | exact .inr ⟨by omega, by omega⟩
     have e8 : hexedR l i = (i, [], false) := by unfold hexedR hexedB; rw [hh]; simp only [Bool.not_true, cond_false, hR, hcnd, cond_true]
     refine At_ret3 results209 (fun w q => ⟨v, ?_, ?_⟩)
     · rw [e8]; try rfl
     rw [e8, List.append_nil]; exact q.mono (E3 Z0 Z0 Z0)
   refine Ta false 65 (Mv (ptr sb) (Ta false 65 (Mv (Iv k) (Ta false 65 (WL_callQ (Δ := [Cl sb 134 [Sl bb l.length cap, Iv a, slV so], Cl bb 5 (l.map u8v ++ sp)]) (v := .bool (hasB l k [125])) call162 rfl (c_has (i := k) (x := [125]) hcap (by omega) (by decide) (by omega)) (K2 Z0 Z0) (Ta false 65 (WL_rd (rd_not (b := hasB l k [125]) rfl) (Pk false (Mv (.bool (!(hasB l k [125]))) ?_)))))))))
   cases hb28 : (!(hasB l k [125]))
   rotate_left 1
   · refine Pa true 71 (Pa true 71 (Pk true (Mv (.bool true) (Pa true 75 (Pa true 75 (Pa true 75 (WL_passU (e := 78) rfl rfl (WL_passU (e := 78) rfl rfl (Pa true 75 (Pk true (Nt (Ts (Mv (Iv i) (Mv (slV v) (Av (Iv i) (Av (slV v) (Av (.bool false) (Nr (At_thenR ?_)))))))))))))))))))
     have hcnd : (k == i + 3 || !hasB l k [125] || decide (vv > 1114111) || (decide (vv ≥ 55296) && decide (vv ≤ 57343))) = true := by
      simp only [beq_iff_eq, beq_eq_false_iff_ne, ne_eq, decide_eq_true_eq, decide_eq_false_iff_not, ge_iff_le, gt_iff_lt, Bool.not_eq_true', Bool.not_eq_false'] at hb27 hb28
      simp only [Bool.or_eq_true, Bool.and_eq_true, beq_iff_eq, decide_eq_true_eq, Bool.not_eq_true', ge_iff_le, gt_iff_lt]; first | exact .inl (.inl (.inl (by omega))) | exact .inl (.inl (.inr (by assumption))) | exact .inl (.inr (by omega)) | exact .inr ⟨by omega, by omega⟩
     have e8 : hexedR l i = (i, [], false) := by unfold hexedR hexedB; rw [hh]; simp only [Bool.not_true, cond_false, hR, hcnd, cond_true]
     refine At_ret3 results209 (fun w q => ⟨v, ?_, ?_⟩)
     · rw [e8]; try rfl
     rw [e8, List.append_nil]; exact q.mono (E3 Z0 Z0 Z0)
   refine Ta false 71 (Mv (Iv vv) (Ta false 71 (Bo (Iv vv) (Iv 1114111) (.bool (decide (((vv : Nat) : Int) > 1114111))) eqg_int (binOp_gtr _ _ _ _) (Pk false (Mv (.bool (decide (((vv : Nat) : Int) > 1114111))) ?_)))))
   cases hb29 : (decide (((vv : Nat) : Int) > 1114111))
   rotate_left 1
   · refine Pa true 75 (Pa true 75 (Pa true 75 (WL_passU (e := 78) rfl rfl (WL_passU (e := 78) rfl rfl (Pa true 75 (Pk true (Nt (Ts (Mv (Iv i) (Mv (slV v) (Av (Iv i) (Av (slV v) (Av (.bool false) (Nr (At_thenR ?_)))))))))))))))
     have hcnd : (k == i + 3 || !hasB l k [125] || decide (vv > 1114111) || (decide (vv ≥ 55296) && decide (vv ≤ 57343))) = true := by
      simp only [beq_iff_eq, beq_eq_false_iff_ne, ne_eq, decide_eq_true_eq, decide_eq_false_iff_not, ge_iff_le, gt_iff_lt, Bool.not_eq_true', Bool.not_eq_false'] at hb27 hb28 hb29
      simp only [Bool.or_eq_true, Bool.and_eq_true, beq_iff_eq, decide_eq_true_eq, Bool.not_eq_true', ge_iff_le, gt_iff_lt]; first | exact .inl (.inl (.inl (by omega))) | exact .inl (.inl (.inr (by assumption))) | exact .inl (.inr (by omega)) | exact .inr ⟨by omega, by omega⟩
     have e8 : hexedR l i = (i, [], false) := by unfold hexedR hexedB; rw [hh]; simp only [Bool.not_true, cond_false, hR, hcnd, cond_true]
     refine At_ret3 results209 (fun w q => ⟨v, ?_, ?_⟩)
     · rw [e8]; try rfl
     rw [e8, List.append_nil]; exact q.mono (E3 Z0 Z0 Z0)
   refine Ta false 75 (Mv (Iv vv) (Ta false 75 (Bo (Iv vv) (Iv 55296) (.bool (decide (((vv : Nat) : Int) ≥ 55296))) eqg_int (binOp_geq _ _ _ _) (Ta false 75 (Mv (.bool (decide (((vv : Nat) : Int) ≥ 55296))) ?_)))))
   cases hb30 : (decide (((vv : Nat) : Int) ≥ 55296))
   · refine Pa false 78 (Pa false 78 (Ta false 75 (Pk false (Pk false (Nt (Fx (Mv (Iv k) (Bo (Iv k) (Iv 1) (Iv (((k + 1 : Nat) : Int))) eqg_int (bin_addN rfl (by omega)) (Mv (slV v) (Mv (Iv vv) (WL_rd (rd_conv (a := ((vv : Nat) : Int)) (q := .i32) rfl underlying3 underlying21 (IntWalk.i32_in _ (by simp only [decide_eq_true_eq, decide_eq_false_iff_not, ge_iff_le, gt_iff_lt] at hb29 hb30; omega))) (WL_rd (rd_rune (r := vv) rfl (by simp only [decide_eq_true_eq, decide_eq_false_iff_not, ge_iff_le, gt_iff_lt] at hb29 hb30; omega) (by simp only [decide_eq_true_eq, decide_eq_false_iff_not, ge_iff_le, gt_iff_lt] at hb29 hb30; omega)) (WL_ef (ef_appBs (s := out) (a := (runeBs vv)) rfl rfl Z2 (by have := runeBs_len vv; omega)) fun v31 => Av (Iv ((k + 1 : Nat) : Int)) (Av (slV v31) (Av (.bool true) (Nr ?_))))))))))))))))
     have hcnd : (k == i + 3 || !hasB l k [125] || decide (vv > 1114111) || (decide (vv ≥ 55296) && decide (vv ≤ 57343))) = false := by
      simp only [beq_iff_eq, beq_eq_false_iff_ne, ne_eq, decide_eq_true_eq, decide_eq_false_iff_not, ge_iff_le, gt_iff_lt, Bool.not_eq_true', Bool.not_eq_false'] at hb27 hb28 hb29 hb30
      simp only [Bool.or_eq_false_iff, Bool.and_eq_false_iff, beq_eq_false_iff_ne, ne_eq, decide_eq_false_iff_not, Bool.not_eq_false', ge_iff_le, gt_iff_lt, and_assoc]; first | (refine ⟨by omega, by assumption, by omega, ?_⟩; omega) | (refine ⟨by omega, by assumption, by omega, ?_⟩; exact .inl (by omega))
     have e8 : hexedR l i = (k + 1, runeBs vv, true) := by unfold hexedR hexedB; rw [hh]; simp only [Bool.not_true, cond_false, hR, hcnd]
     refine At_ret3 results209 (fun w q => ⟨v31, ?_, ?_⟩)
     · rw [e8]; try rfl
     rw [e8]; exact q.mono (E3 Z1 Z1 Z0)
   refine Ta true 78 (Mv (Iv vv) (Ta true 78 (Bo (Iv vv) (Iv 57343) (.bool (decide (((vv : Nat) : Int) ≤ 57343))) eqg_int (binOp_leq _ _ _ _) (Ta false 75 (Pk true (Pk false (Nt ?_)))))))
   cases hb32 : (decide (((vv : Nat) : Int) ≤ 57343))
   rotate_left 1
   · refine Ts (Mv (Iv i) (Mv (slV v) (Av (Iv i) (Av (slV v) (Av (.bool false) (Nr (At_thenR ?_)))))))
     have hcnd : (k == i + 3 || !hasB l k [125] || decide (vv > 1114111) || (decide (vv ≥ 55296) && decide (vv ≤ 57343))) = true := by
      simp only [beq_iff_eq, beq_eq_false_iff_ne, ne_eq, decide_eq_true_eq, decide_eq_false_iff_not, ge_iff_le, gt_iff_lt, Bool.not_eq_true', Bool.not_eq_false'] at hb27 hb28 hb29 hb30 hb32
      simp only [Bool.or_eq_true, Bool.and_eq_true, beq_iff_eq, decide_eq_true_eq, Bool.not_eq_true', ge_iff_le, gt_iff_lt]; first | exact .inl (.inl (.inl (by omega))) | exact .inl (.inl (.inr (by assumption))) | exact .inl (.inr (by omega)) | exact .inr ⟨by omega, by omega⟩
     have e8 : hexedR l i = (i, [], false) := by unfold hexedR hexedB; rw [hh]; simp only [Bool.not_true, cond_false, hR, hcnd, cond_true]
     refine At_ret3 results209 (fun w q => ⟨v, ?_, ?_⟩)
     · rw [e8]; try rfl
     rw [e8, List.append_nil]; exact q.mono (E3 Z0 Z0 Z0)
   refine Fx (Mv (Iv k) (Bo (Iv k) (Iv 1) (Iv (((k + 1 : Nat) : Int))) eqg_int (bin_addN rfl (by omega)) (Mv (slV v) (Mv (Iv vv) (WL_rd (rd_conv (a := ((vv : Nat) : Int)) (q := .i32) rfl underlying3 underlying21 (IntWalk.i32_in _ (by simp only [decide_eq_true_eq, decide_eq_false_iff_not, ge_iff_le, gt_iff_lt] at hb29 hb30 hb32; omega))) (WL_rd (rd_rune (r := vv) rfl (by simp only [decide_eq_true_eq, decide_eq_false_iff_not, ge_iff_le, gt_iff_lt] at hb29 hb30 hb32; omega) (by simp only [decide_eq_true_eq, decide_eq_false_iff_not, ge_iff_le, gt_iff_lt] at hb29 hb30 hb32; omega)) (WL_ef (ef_appBs (s := out) (a := (runeBs vv)) rfl rfl Z2 (by have := runeBs_len vv; omega)) fun v33 => Av (Iv ((k + 1 : Nat) : Int)) (Av (slV v33) (Av (.bool true) (Nr ?_))))))))))
   have hcnd : (k == i + 3 || !hasB l k [125] || decide (vv > 1114111) || (decide (vv ≥ 55296) && decide (vv ≤ 57343))) = false := by
    simp only [beq_iff_eq, beq_eq_false_iff_ne, ne_eq, decide_eq_true_eq, decide_eq_false_iff_not, ge_iff_le, gt_iff_lt, Bool.not_eq_true', Bool.not_eq_false'] at hb27 hb28 hb29 hb30 hb32
    simp only [Bool.or_eq_false_iff, Bool.and_eq_false_iff, beq_eq_false_iff_ne, ne_eq, decide_eq_false_iff_not, Bool.not_eq_false', ge_iff_le, gt_iff_lt, and_assoc]; first | (refine ⟨by omega, by assumption, by omega, ?_⟩; omega) | (refine ⟨by omega, by assumption, by omega, ?_⟩; exact .inl (by omega))
   have e8 : hexedR l i = (k + 1, runeBs vv, true) := by unfold hexedR hexedB; rw [hh]; simp only [Bool.not_true, cond_false, hR, hcnd]
   refine At_ret3 results209 (fun w q => ⟨v33, ?_, ?_⟩)
   · rw [e8]; try rfl
   rw [e8]; exact q.mono (E3 Z1 Z1 Z0)
 have hx1 : ¬ Lib.indexByte HEX (UInt8.ofNat (c.toNat ||| 32)) < 0 := by have h9 := hb18; simpa using h9
 refine Ta false 47 (Mv (ptr sb) (Ta false 47 (Nc sb 0 (Ta false 47 (Fa sb 0 fa134_0 (Ta false 47 (Lo sb 0 (Sl bb l.length cap) isAgg22 Z0 rfl (Ta false 47 (Mv (Iv k) (Ta false 47 (WL_rd (rd_idx1 (j := k) runUnderlying22 sizeOf5 rfl rfl (by omega) (by omega)) (Ta false 47 (Lo bb k (u8v c) isAgg5 Z1 (bytes_get hck) (Ta false 47 (Bo (.int .u8 c.toNat) (.int .u8 48) (.bool (decide (((c.toNat : Nat) : Int) < 48))) eqg_int (binOp_lss _ _ _ _) (Pk false (Nt ?_)))))))))))))))))
 cases hb19 : (decide (((c.toNat : Nat) : Int) < 48))
 · have hx2 : ¬ c.toNat < 48 := by have h9 := hb19; simp only [decide_eq_false_iff_not] at h9; omega
   obtain ⟨dn, hdn, hdc, hdl⟩ := hex_some hx2 hx1
   have hpw : 16 ^ (k - (i + 3)) ≤ 16 ^ 6 := Nat.pow_le_pow_right (by omega) (by omega)
   refine Fs (WC_region (Mv (Iv vv) (Bo (Iv vv) (.int .u64 4) (Iv ((vv * 16 : Nat) : Int)) eqg_int (bin_shl 4 (by decide) (IntWalk.i64_in _ ⟨by omega, by omega⟩)) (Mv (Iv (Lib.indexByte HEX (UInt8.ofNat (c.toNat ||| 32)))) (Bo (Iv ((vv * 16 : Nat) : Int)) (Iv (Lib.indexByte HEX (UInt8.ofNat (c.toNat ||| 32)))) (Iv ((vv * 16 + dn : Nat) : Int)) eqg_int (by rw [hdn]; exact bin_or4 hdl (by simp only [IntKind.bits]; omega) (IntWalk.i64_in _ ⟨by omega, by omega⟩)) (Av (Iv ((vv * 16 + dn : Nat) : Int)) (WL_nil (At_blockN (At_then (WC_region (Mv (Iv k) (Bo (Iv k) (Iv 1) (Iv (((k + 1 : Nat) : Int))) eqg_int (bin_addN rfl (by omega)) (Av (Iv ((k + 1 : Nat) : Int)) (WL_nil ?_))))))))))))))
   exact At_againF ((k + 1), (vv * 16 + dn)) (⟨by omega, by omega, by omega, by rw [hp3, show i + 9 - k = (i + 9 - (k + 1)) + 1 by omega, hexRun_step hck hdc], by rw [show k + 1 - (i + 3) = (k - (i + 3)) + 1 by omega, Nat.pow_succ]; omega⟩) ⟨rfl, rfl, rfl, congrArg (Value.int .i64) (show ((k : Nat) : Int) + 1 = ((k + 1 : Nat) : Int) by omega), rfl, trivial⟩ (E3 Z0 Z0 Z0) (show i + 9 - (k + 1) < i + 9 - k from by omega)
 have hx2 : c.toNat < 48 := by have h9 := hb19; simp only [decide_eq_true_eq] at h9; omega
 have hR : hexRun l 6 (i + 3) 0 = (k, vv) := hp3.trans (hexRun_stop hck (hex_none2 hx2))
 refine WC_true rfl (WC_exit (At_thenX (At_blockY rfl (At_thenX (At_loopX (At_blockX (At_then (Sz (Mv (Iv k) (Mv (Iv i) (Bo (Iv i) (Iv 3) (Iv (((i + 3 : Nat) : Int))) eqg_int (bin_addN rfl (by omega)) (Bo (Iv k) (Iv ((i + 3 : Nat) : Int)) (.bool (((k : Nat) : Int) == ((i + 3 : Nat) : Int))) eqg_int (binOp_eql _ _ _ _) (Mv (.bool (((k : Nat) : Int) == ((i + 3 : Nat) : Int))) ?_)))))))))))))
 cases hb20 : (((k : Nat) : Int) == ((i + 3 : Nat) : Int))
 rotate_left 1
 · refine Pa true 65 (Pa true 65 (Pa true 65 (Pa true 65 (Pk true (Mv (.bool true) (Pa true 71 (Pa true 71 (Pk true (Mv (.bool true) (Pa true 75 (Pa true 75 (Pa true 75 (WL_passU (e := 78) rfl rfl (WL_passU (e := 78) rfl rfl (Pa true 75 (Pk true (Nt (Ts (Mv (Iv i) (Mv (slV v) (Av (Iv i) (Av (slV v) (Av (.bool false) (Nr (At_thenR ?_)))))))))))))))))))))))))
   have hcnd : (k == i + 3 || !hasB l k [125] || decide (vv > 1114111) || (decide (vv ≥ 55296) && decide (vv ≤ 57343))) = true := by
    simp only [beq_iff_eq, beq_eq_false_iff_ne, ne_eq, decide_eq_true_eq, decide_eq_false_iff_not, ge_iff_le, gt_iff_lt, Bool.not_eq_true', Bool.not_eq_false'] at hb20
    simp only [Bool.or_eq_true, Bool.and_eq_true, beq_iff_eq, decide_eq_true_eq, Bool.not_eq_true', ge_iff_le, gt_iff_lt]; first | exact .inl (.inl (.inl (by omega))) | exact .inl (.inl (.inr (by assumption))) | exact .inl (.inr (by omega)) | exact .inr ⟨by omega, by omega⟩
   have e8 : hexedR l i = (i, [], false) := by unfold hexedR hexedB; rw [hh]; simp only [Bool.not_true, cond_false, hR, hcnd, cond_true]
   refine At_ret3 results209 (fun w q => ⟨v, ?_, ?_⟩)
   · rw [e8]; try rfl
   rw [e8, List.append_nil]; exact q.mono (E3 Z0 Z0 Z0)
 refine Ta false 65 (Mv (ptr sb) (Ta false 65 (Mv (Iv k) (Ta false 65 (WL_callQ (Δ := [Cl sb 134 [Sl bb l.length cap, Iv a, slV so], Cl bb 5 (l.map u8v ++ sp)]) (v := .bool (hasB l k [125])) call162 rfl (c_has (i := k) (x := [125]) hcap (by omega) (by decide) (by omega)) (K2 Z0 Z0) (Ta false 65 (WL_rd (rd_not (b := hasB l k [125]) rfl) (Pk false (Mv (.bool (!(hasB l k [125]))) ?_)))))))))
 cases hb21 : (!(hasB l k [125]))
 rotate_left 1
 · refine Pa true 71 (Pa true 71 (Pk true (Mv (.bool true) (Pa true 75 (Pa true 75 (Pa true 75 (WL_passU (e := 78) rfl rfl (WL_passU (e := 78) rfl rfl (Pa true 75 (Pk true (Nt (Ts (Mv (Iv i) (Mv (slV v) (Av (Iv i) (Av (slV v) (Av (.bool false) (Nr (At_thenR ?_)))))))))))))))))))
   have hcnd : (k == i + 3 || !hasB l k [125] || decide (vv > 1114111) || (decide (vv ≥ 55296) && decide (vv ≤ 57343))) = true := by
    simp only [beq_iff_eq, beq_eq_false_iff_ne, ne_eq, decide_eq_true_eq, decide_eq_false_iff_not, ge_iff_le, gt_iff_lt, Bool.not_eq_true', Bool.not_eq_false'] at hb20 hb21
    simp only [Bool.or_eq_true, Bool.and_eq_true, beq_iff_eq, decide_eq_true_eq, Bool.not_eq_true', ge_iff_le, gt_iff_lt]; first | exact .inl (.inl (.inl (by omega))) | exact .inl (.inl (.inr (by assumption))) | exact .inl (.inr (by omega)) | exact .inr ⟨by omega, by omega⟩
   have e8 : hexedR l i = (i, [], false) := by unfold hexedR hexedB; rw [hh]; simp only [Bool.not_true, cond_false, hR, hcnd, cond_true]
   refine At_ret3 results209 (fun w q => ⟨v, ?_, ?_⟩)
   · rw [e8]; try rfl
   rw [e8, List.append_nil]; exact q.mono (E3 Z0 Z0 Z0)
 refine Ta false 71 (Mv (Iv vv) (Ta false 71 (Bo (Iv vv) (Iv 1114111) (.bool (decide (((vv : Nat) : Int) > 1114111))) eqg_int (binOp_gtr _ _ _ _) (Pk false (Mv (.bool (decide (((vv : Nat) : Int) > 1114111))) ?_)))))
 cases hb22 : (decide (((vv : Nat) : Int) > 1114111))
 rotate_left 1
 · refine Pa true 75 (Pa true 75 (Pa true 75 (WL_passU (e := 78) rfl rfl (WL_passU (e := 78) rfl rfl (Pa true 75 (Pk true (Nt (Ts (Mv (Iv i) (Mv (slV v) (Av (Iv i) (Av (slV v) (Av (.bool false) (Nr (At_thenR ?_)))))))))))))))
   have hcnd : (k == i + 3 || !hasB l k [125] || decide (vv > 1114111) || (decide (vv ≥ 55296) && decide (vv ≤ 57343))) = true := by
    simp only [beq_iff_eq, beq_eq_false_iff_ne, ne_eq, decide_eq_true_eq, decide_eq_false_iff_not, ge_iff_le, gt_iff_lt, Bool.not_eq_true', Bool.not_eq_false'] at hb20 hb21 hb22
    simp only [Bool.or_eq_true, Bool.and_eq_true, beq_iff_eq, decide_eq_true_eq, Bool.not_eq_true', ge_iff_le, gt_iff_lt]; first | exact .inl (.inl (.inl (by omega))) | exact .inl (.inl (.inr (by assumption))) | exact .inl (.inr (by omega)) | exact .inr ⟨by omega, by omega⟩
   have e8 : hexedR l i = (i, [], false) := by unfold hexedR hexedB; rw [hh]; simp only [Bool.not_true, cond_false, hR, hcnd, cond_true]
   refine At_ret3 results209 (fun w q => ⟨v, ?_, ?_⟩)
   · rw [e8]; try rfl
   rw [e8, List.append_nil]; exact q.mono (E3 Z0 Z0 Z0)
 refine Ta false 75 (Mv (Iv vv) (Ta false 75 (Bo (Iv vv) (Iv 55296) (.bool (decide (((vv : Nat) : Int) ≥ 55296))) eqg_int (binOp_geq _ _ _ _) (Ta false 75 (Mv (.bool (decide (((vv : Nat) : Int) ≥ 55296))) ?_)))))
 cases hb23 : (decide (((vv : Nat) : Int) ≥ 55296))
 · refine Pa false 78 (Pa false 78 (Ta false 75 (Pk false (Pk false (Nt (Fx (Mv (Iv k) (Bo (Iv k) (Iv 1) (Iv (((k + 1 : Nat) : Int))) eqg_int (bin_addN rfl (by omega)) (Mv (slV v) (Mv (Iv vv) (WL_rd (rd_conv (a := ((vv : Nat) : Int)) (q := .i32) rfl underlying3 underlying21 (IntWalk.i32_in _ (by simp only [decide_eq_true_eq, decide_eq_false_iff_not, ge_iff_le, gt_iff_lt] at hb22 hb23; omega))) (WL_rd (rd_rune (r := vv) rfl (by simp only [decide_eq_true_eq, decide_eq_false_iff_not, ge_iff_le, gt_iff_lt] at hb22 hb23; omega) (by simp only [decide_eq_true_eq, decide_eq_false_iff_not, ge_iff_le, gt_iff_lt] at hb22 hb23; omega)) (WL_ef (ef_appBs (s := out) (a := (runeBs vv)) rfl rfl Z2 (by have := runeBs_len vv; omega)) fun v24 => Av (Iv ((k + 1 : Nat) : Int)) (Av (slV v24) (Av (.bool true) (Nr ?_))))))))))))))))
   have hcnd : (k == i + 3 || !hasB l k [125] || decide (vv > 1114111) || (decide (vv ≥ 55296) && decide (vv ≤ 57343))) = false := by
    simp only [beq_iff_eq, beq_eq_false_iff_ne, ne_eq, decide_eq_true_eq, decide_eq_false_iff_not, ge_iff_le, gt_iff_lt, Bool.not_eq_true', Bool.not_eq_false'] at hb20 hb21 hb22 hb23
    simp only [Bool.or_eq_false_iff, Bool.and_eq_false_iff, beq_eq_false_iff_ne, ne_eq, decide_eq_false_iff_not, Bool.not_eq_false', ge_iff_le, gt_iff_lt, and_assoc]; first | (refine ⟨by omega, by assumption, by omega, ?_⟩; omega) | (refine ⟨by omega, by assumption, by omega, ?_⟩; exact .inl (by omega))
   have e8 : hexedR l i = (k + 1, runeBs vv, true) := by unfold hexedR hexedB; rw [hh]; simp only [Bool.not_true, cond_false, hR, hcnd]
   refine At_ret3 results209 (fun w q => ⟨v24, ?_, ?_⟩)
   · rw [e8]; try rfl
   rw [e8]; exact q.mono (E3 Z1 Z1 Z0)
 refine Ta true 78 (Mv (Iv vv) (Ta true 78 (Bo (Iv vv) (Iv 57343) (.bool (decide (((vv : Nat) : Int) ≤ 57343))) eqg_int (binOp_leq _ _ _ _) (Ta false 75 (Pk true (Pk false (Nt ?_)))))))
 cases hb25 : (decide (((vv : Nat) : Int) ≤ 57343))
 rotate_left 1
 · refine Ts (Mv (Iv i) (Mv (slV v) (Av (Iv i) (Av (slV v) (Av (.bool false) (Nr (At_thenR ?_)))))))
   have hcnd : (k == i + 3 || !hasB l k [125] || decide (vv > 1114111) || (decide (vv ≥ 55296) && decide (vv ≤ 57343))) = true := by
    simp only [beq_iff_eq, beq_eq_false_iff_ne, ne_eq, decide_eq_true_eq, decide_eq_false_iff_not, ge_iff_le, gt_iff_lt, Bool.not_eq_true', Bool.not_eq_false'] at hb20 hb21 hb22 hb23 hb25
    simp only [Bool.or_eq_true, Bool.and_eq_true, beq_iff_eq, decide_eq_true_eq, Bool.not_eq_true', ge_iff_le, gt_iff_lt]; first | exact .inl (.inl (.inl (by omega))) | exact .inl (.inl (.inr (by assumption))) | exact .inl (.inr (by omega)) | exact .inr ⟨by omega, by omega⟩
   have e8 : hexedR l i = (i, [], false) := by unfold hexedR hexedB; rw [hh]; simp only [Bool.not_true, cond_false, hR, hcnd, cond_true]
   refine At_ret3 results209 (fun w q => ⟨v, ?_, ?_⟩)
   · rw [e8]; try rfl
   rw [e8, List.append_nil]; exact q.mono (E3 Z0 Z0 Z0)
 refine Fx (Mv (Iv k) (Bo (Iv k) (Iv 1) (Iv (((k + 1 : Nat) : Int))) eqg_int (bin_addN rfl (by omega)) (Mv (slV v) (Mv (Iv vv) (WL_rd (rd_conv (a := ((vv : Nat) : Int)) (q := .i32) rfl underlying3 underlying21 (IntWalk.i32_in _ (by simp only [decide_eq_true_eq, decide_eq_false_iff_not, ge_iff_le, gt_iff_lt] at hb22 hb23 hb25; omega))) (WL_rd (rd_rune (r := vv) rfl (by simp only [decide_eq_true_eq, decide_eq_false_iff_not, ge_iff_le, gt_iff_lt] at hb22 hb23 hb25; omega) (by simp only [decide_eq_true_eq, decide_eq_false_iff_not, ge_iff_le, gt_iff_lt] at hb22 hb23 hb25; omega)) (WL_ef (ef_appBs (s := out) (a := (runeBs vv)) rfl rfl Z2 (by have := runeBs_len vv; omega)) fun v26 => Av (Iv ((k + 1 : Nat) : Int)) (Av (slV v26) (Av (.bool true) (Nr ?_))))))))))
 have hcnd : (k == i + 3 || !hasB l k [125] || decide (vv > 1114111) || (decide (vv ≥ 55296) && decide (vv ≤ 57343))) = false := by
  simp only [beq_iff_eq, beq_eq_false_iff_ne, ne_eq, decide_eq_true_eq, decide_eq_false_iff_not, ge_iff_le, gt_iff_lt, Bool.not_eq_true', Bool.not_eq_false'] at hb20 hb21 hb22 hb23 hb25
  simp only [Bool.or_eq_false_iff, Bool.and_eq_false_iff, beq_eq_false_iff_ne, ne_eq, decide_eq_false_iff_not, Bool.not_eq_false', ge_iff_le, gt_iff_lt, and_assoc]; first | (refine ⟨by omega, by assumption, by omega, ?_⟩; omega) | (refine ⟨by omega, by assumption, by omega, ?_⟩; exact .inl (by omega))
 have e8 : hexedR l i = (k + 1, runeBs vv, true) := by unfold hexedR hexedB; rw [hh]; simp only [Bool.not_true, cond_false, hR, hcnd]
 refine At_ret3 results209 (fun w q => ⟨v26, ?_, ?_⟩)
 · rw [e8]; try rfl
 rw [e8]; exact q.mono (E3 Z1 Z1 Z0)
theorem c_rune1 {l : Bs} {i : Nat} {sb bb cap : Nat} {sp : List Value} {a : Int} {so v : SV} {c : UInt8} (hcap : l.length ≤ cap) (hl : l.length ≤ 1048576) (hc : l[i]? = some c) (out : Bs) (ho : out.length ≤ 1099511627776) : ∀ F w, Sat ([Cl sb 134 [Sl bb l.length cap, Iv a, slV so], Cl bb 5 (l.map u8v ++ sp), BY v out] ++ F) w → Calls prog 166 [ptr sb, Iv i, slV v].toArray w fun e w' => ∃ v' : SV, e = .returned (.tuple #[Iv (((rune1R l i).1 : Nat) : Int), slV v', .bool (rune1R l i).2.2]) ∧ Sat ([Cl sb 134 [Sl bb l.length cap, Iv a, slV so], Cl bb 5 (l.map u8v ++ sp), BY v' (out ++ (rune1R l i).2.1)] ++ F) w' := by
 intro F
 have hil : i < l.length := (List.getElem?_eq_some_iff.1 hc).1
 refine calls_of_WC (fn := f166) func166 rfl rfl (Sr (Av (Iv 0) (Av (.slice none 0 0) (Av (.bool false) (Nz (Mv (ptr sb) (Nc sb 0 (Fa sb 0 fa134_0 (Lo sb 0 (Sl bb l.length cap) isAgg22 Z0 rfl (Mv (Iv i) (WL_rd (rd_idx1 (j := i) runUnderlying22 sizeOf5 rfl rfl (by omega) (by omega)) (Lo bb i (u8v c) isAgg5 Z1 (bytes_get hc) (Bo (.int .u8 c.toNat) (.int .u8 92) (.bool (((c.toNat : Nat) : Int) != 92)) eqg_int (binOp_neq _ _ _ _) (Nt ?_))))))))))))))
 cases hb1 : (((c.toNat : Nat) : Int) != 92)
 rotate_left 1
 · refine Ts (Mv (ptr sb) (Nc sb 0 (Fa sb 0 fa134_0 (Lo sb 0 (Sl bb l.length cap) isAgg22 Z0 rfl (Mv (Iv i) (WL_callQ (Δ := [Cl bb 5 (l.map u8v ++ sp)]) (v := .tuple #[.int .i32 (((decodeB l i).1 : Nat) : Int), Iv (((decodeB l i).2 : Nat) : Int), .bool (okB l i)]) call169 rfl (c_decode hcap hl hc) (K1 Z1) (Mv (.tuple #[.int .i32 (((decodeB l i).1 : Nat) : Int), Iv (((decodeB l i).2 : Nat) : Int), .bool (okB l i)]) (Xt (.int .i32 (((decodeB l i).1 : Nat) : Int)) (Xt (Iv (((decodeB l i).2 : Nat) : Int)) (Xt (.bool (okB l i)) (Av (.int .i32 (((decodeB l i).1 : Nat) : Int)) (Av (Iv (((decodeB l i).2 : Nat) : Int)) (Av (.bool (okB l i)) (Ny (Mv (Iv i) (Mv (Iv (((decodeB l i).2 : Nat) : Int)) (Bo (Iv i) (Iv (((decodeB l i).2 : Nat) : Int)) (Iv (((i + (decodeB l i).2 : Nat) : Int))) eqg_int (bin_addN rfl (by have := decode_size l i; omega)) (Mv (slV v) (Mv (.int .i32 (((decodeB l i).1 : Nat) : Int)) (WL_rd (rd_rune rfl (decode_valid l i).1 (decode_valid l i).2) (WL_ef (ef_appBs (s := out) (a := (runeBs (decodeB l i).1)) rfl rfl Z2 (by have := runeBs_len (decodeB l i).1; omega)) fun v32 => Av (Iv ((i + (decodeB l i).2 : Nat) : Int)) (Av (slV v32) (Av (.bool true) (Nr (At_thenR ?_)))))))))))))))))))))))))
   have g0 : (c != 92) = true := u8_n hb1
   have e8 : rune1R l i = (i + (decodeB l i).2, (runeBs (decodeB l i).1), true) := by unfold rune1R rune1B; rw [hc]; try simp only [g0, cond_true, cond_false, Bool.or_true, Bool.true_or, Bool.or_false, Bool.false_or]
   refine At_ret3 results166 (fun w q => ⟨v32, ?_, ?_⟩)
   · rw [e8]; try rfl
   rw [e8]; exact q.mono (E3 Z2 Z1 Z0)
 refine Fz (Mv (Iv i) (Bo (Iv i) (Iv 1) (Iv (((i + 1 : Nat) : Int))) eqg_int (bin_addN rfl (by omega)) (Mv (ptr sb) (Nc sb 0 (Fa sb 0 fa134_0 (Lo sb 0 (Sl bb l.length cap) isAgg22 Z0 rfl (WL_rd (rd_lenS (a := some ⟨bb, 0, none⟩) (k := l.length) runUnderlying22 rfl) (Bo (Iv ((i + 1 : Nat) : Int)) (Iv l.length) (.bool (decide (((i + 1 : Nat) : Int) ≥ ((l.length : Nat) : Int)))) eqg_int (binOp_geq _ _ _ _) (Nt ?_)))))))))
 cases hb2 : (decide (((i + 1 : Nat) : Int) ≥ ((l.length : Nat) : Int)))
 rotate_left 1
 · have hi1 : l.length ≤ i + 1 := by have h9 := hb2; simp only [decide_eq_true_eq] at h9; omega
   refine Ts (Mv (Iv i) (Mv (slV v) (Av (Iv i) (Av (slV v) (Av (.bool false) (Nr (At_thenR ?_)))))))
   have g0 : (c != 92) = false := u8_n hb1
   have e8 : rune1R l i = (i, [], false) := by unfold rune1R rune1B; rw [hc]; try simp only [g0, cond_true, cond_false, Bool.or_true, Bool.true_or, Bool.or_false, Bool.false_or]; rw [List.getElem?_eq_none hi1]
   refine At_ret3 results166 (fun w q => ⟨v, ?_, ?_⟩)
   · rw [e8]; try rfl
   rw [e8, List.append_nil]; exact q.mono (E3 Z0 Z0 Z0)
 have hi1 : i + 1 < l.length := by have h9 := hb2; simp only [decide_eq_false_iff_not] at h9; omega
 obtain ⟨d, hd⟩ : ∃ d, l[i + 1]? = some d := ⟨l[i + 1]'hi1, List.getElem?_eq_getElem _⟩
 refine Fz (Mv (ptr sb) (Nc sb 0 (Fa sb 0 fa134_0 (Lo sb 0 (Sl bb l.length cap) isAgg22 Z0 rfl (Mv (Iv i) (Bo (Iv i) (Iv 1) (Iv (((i + 1 : Nat) : Int))) eqg_int (bin_addN rfl (by omega)) (WL_rd (rd_idx1 (j := (i + 1)) runUnderlying22 sizeOf5 rfl rfl (by omega) (by omega)) (Lo bb (i + 1) (u8v d) isAgg5 Z1 (bytes_get hd) (Av (.int .u8 d.toNat) (Ny (Mv (.int .u8 d.toNat) (Nt (WC_block (Sr (Bo (.int .u8 d.toNat) (.int .u8 110) (.bool (((d.toNat : Nat) : Int) == 110)) eqg_int (binOp_eql _ _ _ _) (Av (.bool (((d.toNat : Nat) : Int) == 110)) (Nt ?_)))))))))))))))))
 cases hb3 : (((d.toNat : Nat) : Int) == 110)
 rotate_left 1
 · refine Ts (Mv (Iv i) (Bo (Iv i) (Iv 2) (Iv (((i + 2 : Nat) : Int))) eqg_int (bin_addN rfl (by omega)) (Mv (slV v) (Bl 5 [.int .u8 10] (bs22_1 _ rfl ) fun b30 => WL_ef (ef_appB1 (s := out) (c := 10) rfl rfl (K2 Z3 Z0) (by have := runeBs_len (decodeB l i).1; omega)) fun v31 => Av (Iv ((i + 2 : Nat) : Int)) (Av (slV v31) (Av (.bool true) (Nr (At_blockR (At_thenR ?_)))))))))
   have g0 : (c != 92) = false := u8_n hb1
   have g1 : (d == 110) = true := u8_t hb3
   have e8 : rune1R l i = (i + 2, [10], true) := by unfold rune1R rune1B; rw [hc]; try simp only [g0, g1, cond_true, cond_false, Bool.or_true, Bool.true_or, Bool.or_false, Bool.false_or]; rw [hd]; try simp only [g0, g1, cond_true, cond_false, Bool.or_true, Bool.true_or, Bool.or_false, Bool.false_or]
   refine At_ret3 results166 (fun w q => ⟨v31, ?_, ?_⟩)
   · rw [e8]; try rfl
   rw [e8]; exact q.mono (E3 Z1 Z1 Z0)
 refine WC_false rfl (Sr (Bo (.int .u8 d.toNat) (.int .u8 114) (.bool (((d.toNat : Nat) : Int) == 114)) eqg_int (binOp_eql _ _ _ _) (Av (.bool (((d.toNat : Nat) : Int) == 114)) (Nt ?_))))
 cases hb4 : (((d.toNat : Nat) : Int) == 114)
 rotate_left 1
 · refine Ts (Mv (Iv i) (Bo (Iv i) (Iv 2) (Iv (((i + 2 : Nat) : Int))) eqg_int (bin_addN rfl (by omega)) (Mv (slV v) (Bl 5 [.int .u8 13] (bs22_1 _ rfl ) fun b28 => WL_ef (ef_appB1 (s := out) (c := 13) rfl rfl (K2 Z3 Z0) (by have := runeBs_len (decodeB l i).1; omega)) fun v29 => Av (Iv ((i + 2 : Nat) : Int)) (Av (slV v29) (Av (.bool true) (Nr (At_blockR (At_thenR ?_)))))))))
   have g0 : (c != 92) = false := u8_n hb1
   have g1 : (d == 110) = false := u8_t hb3
   have g2 : (d == 114) = true := u8_t hb4
   have e8 : rune1R l i = (i + 2, [13], true) := by unfold rune1R rune1B; rw [hc]; try simp only [g0, g1, g2, cond_true, cond_false, Bool.or_true, Bool.true_or, Bool.or_false, Bool.false_or]; rw [hd]; try simp only [g0, g1, g2, cond_true, cond_false, Bool.or_true, Bool.true_or, Bool.or_false, Bool.false_or]
   refine At_ret3 results166 (fun w q => ⟨v29, ?_, ?_⟩)
   · rw [e8]; try rfl
   rw [e8]; exact q.mono (E3 Z1 Z1 Z0)
 refine WC_false rfl (Sr (Bo (.int .u8 d.toNat) (.int .u8 116) (.bool (((d.toNat : Nat) : Int) == 116)) eqg_int (binOp_eql _ _ _ _) (Av (.bool (((d.toNat : Nat) : Int) == 116)) (Nt ?_))))
 cases hb5 : (((d.toNat : Nat) : Int) == 116)
 rotate_left 1
 · refine Ts (Mv (Iv i) (Bo (Iv i) (Iv 2) (Iv (((i + 2 : Nat) : Int))) eqg_int (bin_addN rfl (by omega)) (Mv (slV v) (Bl 5 [.int .u8 9] (bs22_1 _ rfl ) fun b26 => WL_ef (ef_appB1 (s := out) (c := 9) rfl rfl (K2 Z3 Z0) (by have := runeBs_len (decodeB l i).1; omega)) fun v27 => Av (Iv ((i + 2 : Nat) : Int)) (Av (slV v27) (Av (.bool true) (Nr (At_blockR (At_thenR ?_)))))))))
   have g0 : (c != 92) = false := u8_n hb1
   have g1 : (d == 110) = false := u8_t hb3
   have g2 : (d == 114) = false := u8_t hb4
   have g3 : (d == 116) = true := u8_t hb5
   have e8 : rune1R l i = (i + 2, [9], true) := by unfold rune1R rune1B; rw [hc]; try simp only [g0, g1, g2, g3, cond_true, cond_false, Bool.or_true, Bool.true_or, Bool.or_false, Bool.false_or]; rw [hd]; try simp only [g0, g1, g2, g3, cond_true, cond_false, Bool.or_true, Bool.true_or, Bool.or_false, Bool.false_or]
   refine At_ret3 results166 (fun w q => ⟨v27, ?_, ?_⟩)
   · rw [e8]; try rfl
   rw [e8]; exact q.mono (E3 Z1 Z1 Z0)
 refine WC_false rfl (Sr (Bo (.int .u8 d.toNat) (.int .u8 48) (.bool (((d.toNat : Nat) : Int) == 48)) eqg_int (binOp_eql _ _ _ _) (Av (.bool (((d.toNat : Nat) : Int) == 48)) (Nt ?_))))
 cases hb6 : (((d.toNat : Nat) : Int) == 48)
 rotate_left 1
 · refine Ts (Mv (Iv i) (Bo (Iv i) (Iv 2) (Iv (((i + 2 : Nat) : Int))) eqg_int (bin_addN rfl (by omega)) (Mv (slV v) (Bl 5 [.int .u8 0] (bs22_1 _ rfl ) fun b24 => WL_ef (ef_appB1 (s := out) (c := 0) rfl rfl (K2 Z3 Z0) (by have := runeBs_len (decodeB l i).1; omega)) fun v25 => Av (Iv ((i + 2 : Nat) : Int)) (Av (slV v25) (Av (.bool true) (Nr (At_blockR (At_thenR ?_)))))))))
   have g0 : (c != 92) = false := u8_n hb1
   have g1 : (d == 110) = false := u8_t hb3
   have g2 : (d == 114) = false := u8_t hb4
   have g3 : (d == 116) = false := u8_t hb5
   have g4 : (d == 48) = true := u8_t hb6
   have e8 : rune1R l i = (i + 2, [0], true) := by unfold rune1R rune1B; rw [hc]; try simp only [g0, g1, g2, g3, g4, cond_true, cond_false, Bool.or_true, Bool.true_or, Bool.or_false, Bool.false_or]; rw [hd]; try simp only [g0, g1, g2, g3, g4, cond_true, cond_false, Bool.or_true, Bool.true_or, Bool.or_false, Bool.false_or]
   refine At_ret3 results166 (fun w q => ⟨v25, ?_, ?_⟩)
   · rw [e8]; try rfl
   rw [e8]; exact q.mono (E3 Z1 Z1 Z0)
 refine WC_false rfl (Sz (Bo (.int .u8 d.toNat) (.int .u8 92) (.bool (((d.toNat : Nat) : Int) == 92)) eqg_int (binOp_eql _ _ _ _) (Av (.bool (((d.toNat : Nat) : Int) == 92)) (Nt ?_))))
 cases hb7 : (((d.toNat : Nat) : Int) == 92)
 rotate_left 1
 · refine WC_true rfl (WC_skip (At_then (Ts (Mv (Iv i) (Bo (Iv i) (Iv 2) (Iv (((i + 2 : Nat) : Int))) eqg_int (bin_addN rfl (by omega)) (Mv (slV v) (Mv (.int .u8 d.toNat) (Bl 5 [.int .u8 d.toNat] (bs22_1 _ rfl ) fun b22 => WL_ef (ef_appB1 (s := out) (c := d) rfl rfl (K2 Z3 Z0) (by have := runeBs_len (decodeB l i).1; omega)) fun v23 => Av (Iv ((i + 2 : Nat) : Int)) (Av (slV v23) (Av (.bool true) (Nr (At_blockR (At_thenR ?_)))))))))))))
   have g0 : (c != 92) = false := u8_n hb1
   have g1 : (d == 110) = false := u8_t hb3
   have g2 : (d == 114) = false := u8_t hb4
   have g3 : (d == 116) = false := u8_t hb5
   have g4 : (d == 48) = false := u8_t hb6
   have g5 : (d == 92) = true := u8_t hb7
   have e8 : rune1R l i = (i + 2, [d], true) := by unfold rune1R rune1B; rw [hc]; try simp only [g0, g1, g2, g3, g4, g5, cond_true, cond_false, Bool.or_true, Bool.true_or, Bool.or_false, Bool.false_or]; rw [hd]; try simp only [g0, g1, g2, g3, g4, g5, cond_true, cond_false, Bool.or_true, Bool.true_or, Bool.or_false, Bool.false_or]
   refine At_ret3 results166 (fun w q => ⟨v23, ?_, ?_⟩)
   · rw [e8]; try rfl
   rw [e8]; exact q.mono (E3 Z1 Z1 Z0)
 refine WC_false rfl (Sr (Bo (.int .u8 d.toNat) (.int .u8 34) (.bool (((d.toNat : Nat) : Int) == 34)) eqg_int (binOp_eql _ _ _ _) (Av (.bool (((d.toNat : Nat) : Int) == 34)) (Nt ?_))))
 cases hb8 : (((d.toNat : Nat) : Int) == 34)
 rotate_left 1
 · refine WC_true rfl (WC_skip (At_then (Ts (Mv (Iv i) (Bo (Iv i) (Iv 2) (Iv (((i + 2 : Nat) : Int))) eqg_int (bin_addN rfl (by omega)) (Mv (slV v) (Mv (.int .u8 d.toNat) (Bl 5 [.int .u8 d.toNat] (bs22_1 _ rfl ) fun b20 => WL_ef (ef_appB1 (s := out) (c := d) rfl rfl (K2 Z3 Z0) (by have := runeBs_len (decodeB l i).1; omega)) fun v21 => Av (Iv ((i + 2 : Nat) : Int)) (Av (slV v21) (Av (.bool true) (Nr (At_blockR (At_thenR ?_)))))))))))))
   have g0 : (c != 92) = false := u8_n hb1
   have g1 : (d == 110) = false := u8_t hb3
   have g2 : (d == 114) = false := u8_t hb4
   have g3 : (d == 116) = false := u8_t hb5
   have g4 : (d == 48) = false := u8_t hb6
   have g5 : (d == 92) = false := u8_t hb7
   have g6 : (d == 34) = true := u8_t hb8
   have e8 : rune1R l i = (i + 2, [d], true) := by unfold rune1R rune1B; rw [hc]; try simp only [g0, g1, g2, g3, g4, g5, g6, cond_true, cond_false, Bool.or_true, Bool.true_or, Bool.or_false, Bool.false_or]; rw [hd]; try simp only [g0, g1, g2, g3, g4, g5, g6, cond_true, cond_false, Bool.or_true, Bool.true_or, Bool.or_false, Bool.false_or]
   refine At_ret3 results166 (fun w q => ⟨v21, ?_, ?_⟩)
   · rw [e8]; try rfl
   rw [e8]; exact q.mono (E3 Z1 Z1 Z0)
 refine WC_false rfl (Sr (Bo (.int .u8 d.toNat) (.int .u8 39) (.bool (((d.toNat : Nat) : Int) == 39)) eqg_int (binOp_eql _ _ _ _) (Av (.bool (((d.toNat : Nat) : Int) == 39)) (Nt ?_))))
 cases hb9 : (((d.toNat : Nat) : Int) == 39)
 rotate_left 1
 · refine WC_true rfl (WC_skip (At_then (Ts (Mv (Iv i) (Bo (Iv i) (Iv 2) (Iv (((i + 2 : Nat) : Int))) eqg_int (bin_addN rfl (by omega)) (Mv (slV v) (Mv (.int .u8 d.toNat) (Bl 5 [.int .u8 d.toNat] (bs22_1 _ rfl ) fun b18 => WL_ef (ef_appB1 (s := out) (c := d) rfl rfl (K2 Z3 Z0) (by have := runeBs_len (decodeB l i).1; omega)) fun v19 => Av (Iv ((i + 2 : Nat) : Int)) (Av (slV v19) (Av (.bool true) (Nr (At_blockR (At_thenR ?_)))))))))))))
   have g0 : (c != 92) = false := u8_n hb1
   have g1 : (d == 110) = false := u8_t hb3
   have g2 : (d == 114) = false := u8_t hb4
   have g3 : (d == 116) = false := u8_t hb5
   have g4 : (d == 48) = false := u8_t hb6
   have g5 : (d == 92) = false := u8_t hb7
   have g6 : (d == 34) = false := u8_t hb8
   have g7 : (d == 39) = true := u8_t hb9
   have e8 : rune1R l i = (i + 2, [d], true) := by unfold rune1R rune1B; rw [hc]; try simp only [g0, g1, g2, g3, g4, g5, g6, g7, cond_true, cond_false, Bool.or_true, Bool.true_or, Bool.or_false, Bool.false_or]; rw [hd]; try simp only [g0, g1, g2, g3, g4, g5, g6, g7, cond_true, cond_false, Bool.or_true, Bool.true_or, Bool.or_false, Bool.false_or]
   refine At_ret3 results166 (fun w q => ⟨v19, ?_, ?_⟩)
   · rw [e8]; try rfl
   rw [e8]; exact q.mono (E3 Z1 Z1 Z0)
 refine WC_false rfl (Sr (Bo (.int .u8 d.toNat) (.int .u8 36) (.bool (((d.toNat : Nat) : Int) == 36)) eqg_int (binOp_eql _ _ _ _) (Av (.bool (((d.toNat : Nat) : Int) == 36)) (Nt ?_))))
 cases hb10 : (((d.toNat : Nat) : Int) == 36)
 rotate_left 1
 · refine WC_true rfl (WC_skip (At_then (Ts (Mv (Iv i) (Bo (Iv i) (Iv 2) (Iv (((i + 2 : Nat) : Int))) eqg_int (bin_addN rfl (by omega)) (Mv (slV v) (Mv (.int .u8 d.toNat) (Bl 5 [.int .u8 d.toNat] (bs22_1 _ rfl ) fun b16 => WL_ef (ef_appB1 (s := out) (c := d) rfl rfl (K2 Z3 Z0) (by have := runeBs_len (decodeB l i).1; omega)) fun v17 => Av (Iv ((i + 2 : Nat) : Int)) (Av (slV v17) (Av (.bool true) (Nr (At_blockR (At_thenR ?_)))))))))))))
   have g0 : (c != 92) = false := u8_n hb1
   have g1 : (d == 110) = false := u8_t hb3
   have g2 : (d == 114) = false := u8_t hb4
   have g3 : (d == 116) = false := u8_t hb5
   have g4 : (d == 48) = false := u8_t hb6
   have g5 : (d == 92) = false := u8_t hb7
   have g6 : (d == 34) = false := u8_t hb8
   have g7 : (d == 39) = false := u8_t hb9
   have g8 : (d == 36) = true := u8_t hb10
   have e8 : rune1R l i = (i + 2, [d], true) := by unfold rune1R rune1B; rw [hc]; try simp only [g0, g1, g2, g3, g4, g5, g6, g7, g8, cond_true, cond_false, Bool.or_true, Bool.true_or, Bool.or_false, Bool.false_or]; rw [hd]; try simp only [g0, g1, g2, g3, g4, g5, g6, g7, g8, cond_true, cond_false, Bool.or_true, Bool.true_or, Bool.or_false, Bool.false_or]
   refine At_ret3 results166 (fun w q => ⟨v17, ?_, ?_⟩)
   · rw [e8]; try rfl
   rw [e8]; exact q.mono (E3 Z1 Z1 Z0)
 refine WC_false rfl (WC_region (Bo (.int .u8 d.toNat) (.int .u8 96) (.bool (((d.toNat : Nat) : Int) == 96)) eqg_int (binOp_eql _ _ _ _) (Av (.bool (((d.toNat : Nat) : Int) == 96)) (Nt ?_))))
 cases hb11 : (((d.toNat : Nat) : Int) == 96)
 rotate_left 1
 · refine Ts (Mv (Iv i) (Bo (Iv i) (Iv 2) (Iv (((i + 2 : Nat) : Int))) eqg_int (bin_addN rfl (by omega)) (Mv (slV v) (Mv (.int .u8 d.toNat) (Bl 5 [.int .u8 d.toNat] (bs22_1 _ rfl ) fun b14 => WL_ef (ef_appB1 (s := out) (c := d) rfl rfl (K2 Z3 Z0) (by have := runeBs_len (decodeB l i).1; omega)) fun v15 => Av (Iv ((i + 2 : Nat) : Int)) (Av (slV v15) (Av (.bool true) (Nr (At_blockR (At_thenR ?_))))))))))
   have g0 : (c != 92) = false := u8_n hb1
   have g1 : (d == 110) = false := u8_t hb3
   have g2 : (d == 114) = false := u8_t hb4
   have g3 : (d == 116) = false := u8_t hb5
   have g4 : (d == 48) = false := u8_t hb6
   have g5 : (d == 92) = false := u8_t hb7
   have g6 : (d == 34) = false := u8_t hb8
   have g7 : (d == 39) = false := u8_t hb9
   have g8 : (d == 36) = false := u8_t hb10
   have g9 : (d == 96) = true := u8_t hb11
   have e8 : rune1R l i = (i + 2, [d], true) := by unfold rune1R rune1B; rw [hc]; try simp only [g0, g1, g2, g3, g4, g5, g6, g7, g8, g9, cond_true, cond_false, Bool.or_true, Bool.true_or, Bool.or_false, Bool.false_or]; rw [hd]; try simp only [g0, g1, g2, g3, g4, g5, g6, g7, g8, g9, cond_true, cond_false, Bool.or_true, Bool.true_or, Bool.or_false, Bool.false_or]
   refine At_ret3 results166 (fun w q => ⟨v15, ?_, ?_⟩)
   · rw [e8]; try rfl
   rw [e8]; exact q.mono (E3 Z1 Z1 Z0)
 refine WC_false rfl (Sr (Bo (.int .u8 d.toNat) (.int .u8 117) (.bool (((d.toNat : Nat) : Int) == 117)) eqg_int (binOp_eql _ _ _ _) (Av (.bool (((d.toNat : Nat) : Int) == 117)) (Nt ?_))))
 cases hb12 : (((d.toNat : Nat) : Int) == 117)
 · refine WC_false rfl (WC_skip (At_blockN (At_then (Sr (Mv (Iv i) (Mv (slV v) (Av (Iv i) (Av (slV v) (Av (.bool false) (Nr ?_))))))))))
   have g0 : (c != 92) = false := u8_n hb1
   have g1 : (d == 110) = false := u8_t hb3
   have g2 : (d == 114) = false := u8_t hb4
   have g3 : (d == 116) = false := u8_t hb5
   have g4 : (d == 48) = false := u8_t hb6
   have g5 : (d == 92) = false := u8_t hb7
   have g6 : (d == 34) = false := u8_t hb8
   have g7 : (d == 39) = false := u8_t hb9
   have g8 : (d == 36) = false := u8_t hb10
   have g9 : (d == 96) = false := u8_t hb11
   have g10 : (d == 117) = false := u8_t hb12
   have e8 : rune1R l i = (i, [], false) := by unfold rune1R rune1B; rw [hc]; try simp only [g0, g1, g2, g3, g4, g5, g6, g7, g8, g9, g10, cond_true, cond_false, Bool.or_true, Bool.true_or, Bool.or_false, Bool.false_or]; rw [hd]; try simp only [g0, g1, g2, g3, g4, g5, g6, g7, g8, g9, g10, cond_true, cond_false, Bool.or_true, Bool.true_or, Bool.or_false, Bool.false_or]
   refine At_ret3 results166 (fun w q => ⟨v, ?_, ?_⟩)
   · rw [e8]; try rfl
   rw [e8, List.append_nil]; exact q.mono (E3 Z0 Z0 Z0)
 refine Ts (Mv (ptr sb) (Mv (Iv i) (Mv (slV v) (WL_callX (Δ0 := [Cl sb 134 [Sl bb l.length cap, Iv a, slV so], Cl bb 5 (l.map u8v ++ sp), BY v out]) (Δ := fun v13 => [Cl sb 134 [Sl bb l.length cap, Iv a, slV so], Cl bb 5 (l.map u8v ++ sp), BY v13 (out ++ (hexedR l i).2.1)]) (v := fun v13 => .tuple #[Iv (((hexedR l i).1 : Nat) : Int), slV v13, .bool ((hexedR l i).2.2)]) call209 rfl (c_hexed (v := v) hcap hl hc hd out ho) (K3 Z0 Z0 Z0) ?_))))
 rintro v13
 refine Xt (Iv (((hexedR l i).1 : Nat) : Int)) (Xt (slV v13) (Xt (.bool ((hexedR l i).2.2)) (Av (Iv (((hexedR l i).1 : Nat) : Int)) (Av (slV v13) (Av (.bool ((hexedR l i).2.2)) (Nr (At_blockR (At_thenR ?_))))))))
 have g0 : (c != 92) = false := u8_n hb1
 have g1 : (d == 110) = false := u8_t hb3
 have g2 : (d == 114) = false := u8_t hb4
 have g3 : (d == 116) = false := u8_t hb5
 have g4 : (d == 48) = false := u8_t hb6
 have g5 : (d == 92) = false := u8_t hb7
 have g6 : (d == 34) = false := u8_t hb8
 have g7 : (d == 39) = false := u8_t hb9
 have g8 : (d == 36) = false := u8_t hb10
 have g9 : (d == 96) = false := u8_t hb11
 have g10 : (d == 117) = true := u8_t hb12
 have e8 : rune1R l i = hexedR l i := by unfold rune1R hexedR rune1B; rw [hc]; try simp only [g0, g1, g2, g3, g4, g5, g6, g7, g8, g9, g10, cond_true, cond_false, Bool.or_true, Bool.true_or, Bool.or_false, Bool.false_or]; rw [hd]; try simp only [g0, g1, g2, g3, g4, g5, g6, g7, g8, g9, g10, cond_true, cond_false, Bool.or_true, Bool.true_or, Bool.or_false, Bool.false_or]
 refine At_ret3 results166 (fun w q => ⟨v13, ?_, ?_⟩)
 · rw [e8]; try rfl
 rw [e8]; exact q.mono (E3 Z0 Z0 Z0)
end
end Go.Proofs

namespace Go.Proofs
open Go.Px Tryz
section
variable {pb tb cap K : Nat} {L : List Tk} {g : NT → M PT} {gx : GX} {rx : RX}
theorem by_nil {Γ : List HP} : Ent Γ (BY (none, 0, 0) [] :: Γ) := arr_nil 5 1 Γ
theorem rd_byStr {n : Nat} {ρ : Env} {Γ Γ' : List HP} {d : Option Tmp} {ty : TypeId} {pos : String} {af : Array Edge} {gd : Option (Nat × Bool)} {x : Operand} {v : SV} {s : Bs} (hx : evE n ρ x = slV v) (hs : Sel Γ (BY v s) Γ') :
 Rd prog n ρ ⟨d, .convert 22 9 x, ty, pos, af, gd⟩ Γ (Tx s) := fun w q => by
 have q := q.mono hs.ent
 obtain ⟨h1, h2, hd, ⟨hlen, hv⟩, _⟩ := id q
 have e1 : ∀ m : Bs, (m.map fun c => ((c.toNat : Nat) : Int)).map (fun n => UInt8.ofNat n.toNat) = m := fun m => by
  rw [List.map_map]
  conv => rhs; rw [← List.map_id m]
  exact List.map_congr_left fun c _ => by simp
 rcases hv with ⟨e, hm⟩ | ⟨b, cap, sp, e, hmc, hcm, hcs, hblk⟩
 · have hs0 : s = [] := List.eq_nil_of_length_eq_zero hm
   subst hs0
   rw [e] at hx
   have := run_convert_bytes_nil (P := prog) w 22 5 underlying22 underlying5 0 0 9 underlying9
   simp only [execOp, hx, Sem.run_bind, this, Result.andThen_ok, Sem.run_pure]
   rfl
 rw [e] at hx
 have qC : Sat (Cl b 5 (s.map u8v ++ sp) :: []) w := ⟨h1, h2, hd, hblk, trivial⟩
 have hb := Sat.blk qC
 have key : (convert 22 9 (Sl b s.length cap)).run prog w = .ok (.string (strOfNums (s.map fun c => ((c.toNat : Nat) : Int)))) w := by
  refine run_convert_bytes_arg w 22 5 underlying22 underlying5 b 0 s.length cap (s.map fun c => ((c.toNat : Nat) : Int)) (by simp) (fun m hm => ?_) 9 underlying9
  have hlm : s[m]? = some (s[m]'hm) := List.getElem?_eq_getElem hm
  have hcell : ((s.map u8v ++ sp).toArray)[0 + m]? = some (u8v (s[m]'hm)) := by rw [Nat.zero_add, List.getElem?_toArray]; exact bytes_get hlm
  have e : (s.map fun c => ((c.toNat : Nat) : Int)).getD m 0 = (((s[m]'hm).toNat : Nat) : Int) := by
   rw [List.getD_eq_getElem?_getD, List.getElem?_map, hlm]; rfl
  have := cell_of_block (w := w) hb hcell
  rw [e, this]
 simp only [execOp, hx, Sem.run_bind, key, Result.andThen_ok, Sem.run_pure]
 rw [strOf_bs e1]
theorem rune1R_some {l : Bs} {i : Nat} (h : (rune1R l i).2.2 = true) : rune1B l i = some ((rune1R l i).1, (rune1R l i).2.1) := by
 unfold rune1R at h ⊢
 cases e : rune1B l i with
 | none => rw [e] at h; cases h
 | some p => rfl
theorem rune1R_none {l : Bs} {i : Nat} (h : (rune1R l i).2.2 = false) : rune1B l i = none := by
 unfold rune1R at h
 cases e : rune1B l i with
 | none => rfl
 | some p => rw [e] at h; cases h
theorem hexRun_bounds : ∀ (l : Bs) (n k v : Nat), k ≤ l.length → k ≤ (hexRun l n k v).1 ∧ (hexRun l n k v).1 ≤ l.length
 | l, 0, k, v, h => ⟨Nat.le_refl _, h⟩
 | l, n + 1, k, v, h => by
  rw [hexRun]
  cases hc : l[k]? with
  | none => exact ⟨Nat.le_refl _, h⟩
  | some c =>
   dsimp only
   cases hexD c with
   | none => exact ⟨Nat.le_refl _, h⟩
   | some d =>
    have hk := (List.getElem?_eq_some_iff.1 hc).1
    have := hexRun_bounds l n (k + 1) (v * 16 + d) (by omega)
    dsimp only
    omega
theorem decode_fits (l : Bs) (i : Nat) (h : i < l.length) : 1 ≤ (decodeB l i).2 ∧ i + (decodeB l i).2 ≤ l.length := by
 unfold decodeB
 have hc : l[i]? = some (l[i]'h) := List.getElem?_eq_getElem h
 rw [hc]
 dsimp only
 generalize l[i] = c
 cases h0 : ((wideB c).1 == 0 || decide ((wideB c).1 > l.length - i)) with
 | true => simp only [cond_true]; omega
 | false =>
  simp only [Bool.or_eq_false_iff, beq_eq_false_iff_ne, ne_eq, decide_eq_false_iff_not] at h0
  simp only [cond_false]
  cases contR ((l.drop (i + 1)).take ((wideB c).1 - 1)) (wideB c).2 with
  | none => dsimp only; omega
  | some r =>
   dsimp only
   cases fitsB r (wideB c).1 <;> simp only [cond_true, cond_false] <;> omega
theorem rune1B_ok {l : Bs} {i j : Nat} {o : Bs} (h : rune1B l i = some (j, o)) : i < j ∧ j ≤ l.length ∧ o.length ≤ 4 := by
 unfold rune1B at h
 cases hc : l[i]? with
 | none => rw [hc] at h; cases h
 | some c =>
  have hil := (List.getElem?_eq_some_iff.1 hc).1
  rw [hc] at h
  dsimp only at h
  cases g1 : (c != 92) with
  | true =>
   rw [g1, cond_true] at h
   cases h
   have := decode_fits l i hil
   exact ⟨by omega, by omega, runeBs_len _⟩
  | false =>
   rw [g1, cond_false] at h
   cases hd : l[i + 1]? with
   | none => rw [hd] at h; cases h
   | some d =>
    have hil := (List.getElem?_eq_some_iff.1 hd).1
    rw [hd] at h
    dsimp only at h
    have fin : ∀ {x : Bs}, x.length ≤ 4 → some (i + 2, x) = some (j, o) → i < j ∧ j ≤ l.length ∧ o.length ≤ 4 := fun hx e => by cases e; exact ⟨by omega, by omega, hx⟩
    cases g2 : (d == 110) <;> rw [g2] at h
    case true => exact fin (by decide) h
    cases g3 : (d == 114) <;> rw [g3] at h
    case true => exact fin (by decide) h
    cases g4 : (d == 116) <;> rw [g4] at h
    case true => exact fin (by decide) h
    cases g5 : (d == 48) <;> rw [g5] at h
    case true => exact fin (by decide) h
    cases g6 : (d == 92 || d == 34 || d == 39 || d == 36 || d == 96) <;> rw [g6] at h
    case true => exact fin (by simp) h
    cases g7 : (d == 117) <;> rw [g7] at h
    case false => cases h
    simp only [cond_true, cond_false] at h
    unfold hexedB at h
    cases g8 : hasB l (i + 2) [123] <;> simp only [g8, Bool.not_true, Bool.not_false, cond_true, cond_false] at h
    · cases h
    have h3 := hasB_len g8 (by decide)
    simp only [List.length_cons, List.length_nil] at h3
    have hb := hexRun_bounds l 6 (i + 3) 0 (by omega)
    cases g9 : ((hexRun l 6 (i + 3) 0).1 == i + 3 || !hasB l (hexRun l 6 (i + 3) 0).1 [125] || decide ((hexRun l 6 (i + 3) 0).2 > 1114111) || (decide ((hexRun l 6 (i + 3) 0).2 ≥ 55296) && decide ((hexRun l 6 (i + 3) 0).2 ≤ 57343))) <;> rw [g9] at h
    · simp only [cond_false] at h
      simp only [Bool.or_eq_false_iff, Bool.not_eq_false'] at g9
      have h4 := hasB_len g9.1.1.2 (by decide)
      simp only [List.length_cons, List.length_nil] at h4
      cases h
      exact ⟨by omega, by omega, runeBs_len _⟩
    cases h
theorem rune1R_bounds {l : Bs} {i : Nat} (h : (rune1R l i).2.2 = true) : i < (rune1R l i).1 ∧ (rune1R l i).1 ≤ l.length ∧ (rune1R l i).2.1.length ≤ 4 := rune1B_ok (rune1R_some h)
theorem c_quoted {l : Bs} {i K : Nat} {sb bb cap : Nat} {sp : List Value} {so : SV} {t : Tk} {q : UInt8} (hcap : l.length ≤ cap) (hl : l.length ≤ 1048576) (hi : i < l.length) (hK : quotedK l i q K (i + 1) [] = some t) : ∀ F w, Sat ([Cl sb 134 [Sl bb l.length cap, Iv i, slV so], Cl bb 5 (l.map u8v ++ sp)] ++ F) w → Calls prog 111 [ptr sb, u8v q].toArray w fun e w' => e = .returned (tkVal t) ∧ Sat ([Cl sb 134 [Sl bb l.length cap, Iv i, slV so], Cl bb 5 (l.map u8v ++ sp)] ++ F) w' := by
 intro F
 refine calls_of_WC (fn := f111) func111 rfl rfl (Sr (WL_ef (ef_alloc (l := [Iv 0, Tx [], Iv 0, Iv 0]) zeroValue47 rfl) fun b1 => Nt (WC_scope0 0 rfl (Sr (Av (.slice none 0 0) (Ny (Av (.bool true) (Ny (Mv (ptr sb) (Nc sb 0 (Fa sb 0 fa134_1 (Lo sb 1 (Iv i) isAgg3 Z1 rfl (Bo (Iv i) (Iv 1) (Iv (((i + 1 : Nat) : Int))) eqg_int (bin_addN rfl (by omega)) (Av (Iv ((i + 1 : Nat) : Int)) (Nt (WC_seq (WC_label (At_then (WC_seq (WC_block (WC.ent by_nil (WC_loopF (α := Nat × Bs × SV × Nat) (fun x => quotedK l i q x.2.2.2 x.1 x.2.1 = some t ∧ x.1 ≤ l.length ∧ x.2.1.length ≤ 4 * x.1) (fun x => [(0, ptr sb), (1, .int .u8 q.toNat), (4, ptr b1), (5, slV x.2.2.1), (7, Iv x.1)]) (fun x => BY x.2.2.1 x.2.1 :: Cl b1 47 [Iv 0, Tx [], Iv 0, Iv 0] :: Cl sb 134 [Sl bb l.length cap, Iv i, slV so] :: Cl bb 5 (l.map u8v ++ sp) :: F) (fun x => x.2.2.2) ((i + 1), [], (none, 0, 0), K) (show quotedK l i q K (i + 1) [] = some t ∧ (i + 1) ≤ l.length ∧ [].length ≤ 4 * (i + 1) from ⟨hK, by omega, by simp⟩) ⟨rfl, rfl, rfl, rfl, rfl, trivial⟩ (E4 Z0 Z0 Z0 Z0) ?_))))))))))))))))))))))
 rintro ⟨j, out, v, k⟩ σ hpre
 replace hpre : quotedK l i q k j out = some t ∧ j ≤ l.length ∧ out.length ≤ 4 * j := hpre
 obtain ⟨hq, hj1, hj2⟩ := id hpre
 rcases k with _ | k
 · cases hq
 show WC prog _ _ _ (upds σ [(0, ptr sb), (1, .int .u8 q.toNat), (4, ptr b1), (5, slV v), (7, Iv j)]) _ (BY v out :: Cl b1 47 [Iv 0, Tx [], Iv 0, Iv 0] :: Cl sb 134 [Sl bb l.length cap, Iv i, slV so] :: Cl bb 5 (l.map u8v ++ sp) :: F)
 refine Sz (Mv (Iv j) (Mv (ptr sb) (Nc sb 0 (Fa sb 0 fa134_0 (Lo sb 0 (Sl bb l.length cap) isAgg22 Z2 rfl (WL_rd (rd_lenS (a := some ⟨bb, 0, none⟩) (k := l.length) runUnderlying22 rfl) (Bo (Iv j) (Iv l.length) (.bool (decide (((j : Nat) : Int) < ((l.length : Nat) : Int)))) eqg_int (binOp_lss _ _ _ _) (Nt ?_))))))))
 cases hb2 : (decide (((j : Nat) : Int) < ((l.length : Nat) : Int)))
 · have hje : l.length ≤ j := by have h9 := hb2; simp only [decide_eq_false_iff_not] at h9; omega
   rw [quotedK, List.getElem?_eq_none hje] at hq
   cases hq
   refine WC_false rfl (WC_exit (At_thenX (At_loopX (At_blockX (At_then (Sz (Mv (Iv j) (Mv (ptr sb) (Nc sb 0 (Fa sb 0 fa134_0 (Lo sb 0 (Sl bb l.length cap) isAgg22 Z2 rfl (WL_rd (rd_lenS (a := some ⟨bb, 0, none⟩) (k := l.length) runUnderlying22 rfl) (Bo (Iv j) (Iv l.length) (.bool true) eqg_int (by rw [binOp_geq]; rw [decide_eq_true (by omega)]) (Nt (Ts (WL_rd (rd_build (vs := []) (v := .agg #[Iv 0, Tx [], Iv 0, Iv 0]) rfl (bd47_z )) (Sa b1 0 [Iv 0, Tx [], Iv 0, Iv 0] sizeOf47 Z1 (.put (.put (.put (.put .done)))) (Nr (At_thenR (At_scopeR ?_))))))))))))))))))))
   exact At_retC results111 isAgg47 sizeOf47 rfl Z0 rfl (fun w q => ⟨rfl, q.mono (En Z2 (En Z2 D2))⟩)
 have hjl : j < l.length := by have h9 := hb2; simp only [decide_eq_true_eq] at h9; omega
 obtain ⟨c, hc⟩ : ∃ c, l[j]? = some c := ⟨l[j]'hjl, List.getElem?_eq_getElem _⟩
 rw [quotedK, hc] at hq
 dsimp only at hq
 refine WC_true rfl (WC_skip (At_then (WC_block (Sz (Mv (ptr sb) (Nc sb 0 (Fa sb 0 fa134_0 (Lo sb 0 (Sl bb l.length cap) isAgg22 Z2 rfl (Mv (Iv j) (WL_rd (rd_idx1 (j := j) runUnderlying22 sizeOf5 rfl rfl (by omega) (by omega)) (Lo bb j (u8v c) isAgg5 Z3 (bytes_get hc) (Nt (WC_block (Sr (Mv (.int .u8 q.toNat) (Bo (.int .u8 c.toNat) (.int .u8 q.toNat) (.bool (((c.toNat : Nat) : Int) == ((q.toNat : Nat) : Int))) eqg_int (binOp_eql _ _ _ _) (Av (.bool (((c.toNat : Nat) : Int) == ((q.toNat : Nat) : Int))) (Nt ?_))))))))))))))))))
 cases hb3 : (((c.toNat : Nat) : Int) == ((q.toNat : Nat) : Int))
 rotate_left 1
 · have g13 : (c == q) = true := u8_t hb3
   simp only [g13, cond_true, cond_false, Bool.true_or, Bool.false_or] at hq
   refine WC_true rfl (WC_exit (At_blockY rfl (At_thenX (At_blockY rfl (At_loopX (At_blockX (At_then (Sz (Mv (Iv j) (Mv (ptr sb) (Nc sb 0 (Fa sb 0 fa134_0 (Lo sb 0 (Sl bb l.length cap) isAgg22 Z2 rfl (WL_rd (rd_lenS (a := some ⟨bb, 0, none⟩) (k := l.length) runUnderlying22 rfl) (Bo (Iv j) (Iv l.length) (.bool false) eqg_int (by rw [binOp_geq]; rw [decide_eq_false (by omega)]) (Nt (Fs (WC_seq (WC_draw [9] [BY v out, Cl sb 134 [Sl bb l.length cap, Iv i, slV so]] mixed (Dt 0 rfl rfl (Q0 (K2 Z0 Z1)) (Rm (slV v) rfl) (Dt 1 rfl rfl (Q0 (K2 Z0 Z1)) (rd_byStr (v := v) (s := out) rfl Z0) (Dt 2 rfl rfl (Q0 (K2 Z0 Z1)) (Rm (ptr sb) rfl) (Dt 3 rfl rfl (Q0 (K2 Z0 Z1)) (Rn sb 0 rfl) (Dt 4 rfl rfl (Q0 (K2 Z0 Z1)) (Rf sb 0 fa134_1 rfl) (Dt 5 rfl rfl (Q0 (K2 Z0 Z1)) (Rl sb 1 (Iv i) isAgg3 rfl Z1 rfl) (Dt 6 rfl rfl (Q0 (K2 Z0 Z1)) (Rm (Iv j) rfl) (Dt 7 rfl rfl (Q0 (K2 Z0 Z1)) (Rb (Iv j) (Iv 1) (Iv (((j : Nat) : Int) + 1)) rfl rfl eqg_int (bin_add (by omega) (by omega))) (Dt 8 rfl rfl (Q0 (K2 Z0 Z1)) (rd_build (vs := [(0, Iv 4), (1, Tx out), (2, Iv i), (3, Iv (((j : Nat) : Int) + 1))]) (v := .agg #[Iv 4, Tx out, Iv i, Iv (((j : Nat) : Int) + 1)]) rfl (bd47_0_1_2_3 _ _ _ _ rfl rfl rfl rfl )) (WD_ef0 9 (by kernel_rfl) rfl rfl rfl (ef_store (b := b1) (o := 0) (v := .agg #[Iv 4, Tx out, Iv i, Iv (((j : Nat) : Int) + 1)]) (vs := [Iv 4, Tx out, Iv i, Iv (((j : Nat) : Int) + 1)]) sizeOf47 rfl rfl rfl rfl rfl Z1 (.put (.put (.put (.put .done))))) (late_vac (i := 9) (by kernel_rfl) (by decide)) ?_)))))))))))))))))))))))))))))
   refine WD_done (by kernel_rfl) ?_ _
   refine At_then (WC_ret (At_scopeR ?_))
   cases hq
   exact At_retC results111 isAgg47 sizeOf47 rfl Z0 rfl (fun w q => ⟨rfl, q.mono (En Z2 (En Z2 D2))⟩)
 have g4 : (c == q) = false := u8_t hb3
 simp only [g4, cond_true, cond_false, Bool.true_or, Bool.false_or] at hq
 refine WC_false rfl (Sz (Bo (.int .u8 c.toNat) (.int .u8 10) (.bool (((c.toNat : Nat) : Int) == 10)) eqg_int (binOp_eql _ _ _ _) (Av (.bool (((c.toNat : Nat) : Int) == 10)) (Nt ?_))))
 cases hb5 : (((c.toNat : Nat) : Int) == 10)
 rotate_left 1
 · have g12 : (c == 10) = true := u8_t hb5
   simp only [g12, cond_true, cond_false, Bool.true_or, Bool.false_or] at hq
   refine WC_true rfl (WC_skip (At_then (Ts (WL_rd (rd_build (vs := []) (v := .agg #[Iv 0, Tx [], Iv 0, Iv 0]) rfl (bd47_z )) (Sa b1 0 [Iv 0, Tx [], Iv 0, Iv 0] sizeOf47 Z1 (.put (.put (.put (.put .done)))) (Nr (At_blockR (At_thenR (At_blockR (At_loopR (At_blockR (At_thenR (At_scopeR ?_)))))))))))))
   cases hq
   exact At_retC results111 isAgg47 sizeOf47 rfl Z0 rfl (fun w q => ⟨rfl, q.mono (En Z2 (En Z2 D2))⟩)
 have g6 : (c == 10) = false := u8_t hb5
 simp only [g6, cond_true, cond_false, Bool.true_or, Bool.false_or] at hq
 refine WC_false rfl (WC_region (Bo (.int .u8 c.toNat) (.int .u8 13) (.bool (((c.toNat : Nat) : Int) == 13)) eqg_int (binOp_eql _ _ _ _) (Av (.bool (((c.toNat : Nat) : Int) == 13)) (Nt ?_))))
 cases hb7 : (((c.toNat : Nat) : Int) == 13)
 rotate_left 1
 · have g11 : (c == 13) = true := u8_t hb7
   simp only [g11, cond_true, cond_false, Bool.true_or, Bool.false_or] at hq
   refine Ts (WL_rd (rd_build (vs := []) (v := .agg #[Iv 0, Tx [], Iv 0, Iv 0]) rfl (bd47_z )) (Sa b1 0 [Iv 0, Tx [], Iv 0, Iv 0] sizeOf47 Z1 (.put (.put (.put (.put .done)))) (Nr (At_blockR (At_thenR (At_blockR (At_loopR (At_blockR (At_thenR (At_scopeR ?_))))))))))
   cases hq
   exact At_retC results111 isAgg47 sizeOf47 rfl Z0 rfl (fun w q => ⟨rfl, q.mono (En Z2 (En Z2 D2))⟩)
 have g8 : (c == 13) = false := u8_t hb7
 simp only [g8, cond_true, cond_false, Bool.true_or, Bool.false_or] at hq
 refine WC_false rfl (WC_skip (At_blockN (At_then (Sr (Mv (ptr sb) (Mv (Iv j) (Mv (slV v) (WL_callX (Δ0 := [Cl sb 134 [Sl bb l.length cap, Iv i, slV so], Cl bb 5 (l.map u8v ++ sp), BY v out]) (Δ := fun v9 => [Cl sb 134 [Sl bb l.length cap, Iv i, slV so], Cl bb 5 (l.map u8v ++ sp), BY v9 (out ++ (rune1R l j).2.1)]) (v := fun v9 => .tuple #[Iv (((rune1R l j).1 : Nat) : Int), slV v9, .bool ((rune1R l j).2.2)]) call166 rfl (c_rune1 hcap hl hc out (by omega)) (K3 Z2 Z2 Z0) ?_))))))))
 rintro v9
 refine Mv (.tuple #[Iv (((rune1R l j).1 : Nat) : Int), slV v9, .bool ((rune1R l j).2.2)]) (Xt (Iv (((rune1R l j).1 : Nat) : Int)) (Xt (slV v9) (Xt (.bool ((rune1R l j).2.2)) (Av (Iv (((rune1R l j).1 : Nat) : Int)) (Av (slV v9) (Av (.bool ((rune1R l j).2.2)) (Ny (Mv (.bool ((rune1R l j).2.2)) (WL_rd (rd_not (b := (rune1R l j).2.2) rfl) (Nt ?_))))))))))
 cases hb10 : (!((rune1R l j).2.2))
 · have hok : (rune1R l j).2.2 = true := by have h9 := hb10; simpa using h9
   rw [rune1R_some hok] at hq
   dsimp only at hq
   obtain ⟨hr1, hr2, hr3⟩ := rune1R_bounds hok
   refine WC_false rfl (WC_skip (At_blockN ?_))
   exact At_againF (((rune1R l j).1), (out ++ (rune1R l j).2.1), v9, k) (⟨hq, hr2, by rw [List.length_append]; omega⟩) ⟨rfl, rfl, rfl, rfl, rfl, trivial⟩ (E4 Z2 Z2 Z0 Z0) (Nat.lt_succ_self _)
 have hok : (rune1R l j).2.2 = false := by have h9 := hb10; simpa using h9
 rw [rune1R_none hok] at hq
 dsimp only at hq
 refine Ts (WL_rd (rd_build (vs := []) (v := .agg #[Iv 0, Tx [], Iv 0, Iv 0]) rfl (bd47_z )) (Sa b1 0 [Iv 0, Tx [], Iv 0, Iv 0] sizeOf47 Z3 (.put (.put (.put (.put .done)))) (Nr (At_blockR (At_loopR (At_blockR (At_thenR (At_scopeR ?_))))))))
 cases hq
 exact At_retC results111 isAgg47 sizeOf47 rfl Z0 rfl (fun w q => ⟨rfl, q.mono (En Z1 (En Z1 D2))⟩)
theorem c_piece {l : Bs} {i K : Nat} {sb bb cap : Nat} {sp : List Value} {so : SV} {t : Tk} {ends goes : Int} (hcap : l.length ≤ cap) (hl : l.length ≤ 1048576) (hi : i < l.length) (hK : pieceK l i ends goes K (i + 1) [] = some t) : ∀ F w, Sat ([Cl sb 134 [Sl bb l.length cap, Iv i, slV so], Cl bb 5 (l.map u8v ++ sp)] ++ F) w → Calls prog 112 [ptr sb, Iv ends, Iv goes].toArray w fun e w' => e = .returned (tkVal t) ∧ Sat ([Cl sb 134 [Sl bb l.length cap, Iv i, slV so], Cl bb 5 (l.map u8v ++ sp)] ++ F) w' := by
 intro F
 refine calls_of_WC (fn := f112) func112 rfl rfl (Sr (WL_ef (ef_alloc (l := [Iv 0, Tx [], Iv 0, Iv 0]) zeroValue47 rfl) fun b1 => Ny (Av (.slice none 0 0) (Ny (Av (.bool true) (Nz (Mv (ptr sb) (Nc sb 0 (Fa sb 0 fa134_1 (Lo sb 1 (Iv i) isAgg3 Z1 rfl (Bo (Iv i) (Iv 1) (Iv (((i + 1 : Nat) : Int))) eqg_int (bin_addN rfl (by omega)) (Av (Iv ((i + 1 : Nat) : Int)) (Nt (WC_block (WC.ent by_nil (WC_loopF (α := Nat × Bs × SV × Nat) (fun x => pieceK l i ends goes x.2.2.2 x.1 x.2.1 = some t ∧ x.1 ≤ l.length ∧ x.2.1.length ≤ 4 * x.1) (fun x => [(0, ptr sb), (1, Iv ends), (2, Iv goes), (6, ptr b1), (7, slV x.2.2.1), (9, Iv x.1)]) (fun x => BY x.2.2.1 x.2.1 :: Cl b1 47 [Iv 0, Tx [], Iv 0, Iv 0] :: Cl sb 134 [Sl bb l.length cap, Iv i, slV so] :: Cl bb 5 (l.map u8v ++ sp) :: F) (fun x => x.2.2.2) ((i + 1), [], (none, 0, 0), K) (show pieceK l i ends goes K (i + 1) [] = some t ∧ (i + 1) ≤ l.length ∧ [].length ≤ 4 * (i + 1) from ⟨hK, by omega, by simp⟩) ⟨rfl, rfl, rfl, rfl, rfl, rfl, trivial⟩ (E4 Z0 Z0 Z0 Z0) ?_))))))))))))))))
 rintro ⟨j, out, v, k⟩ σ hpre
 replace hpre : pieceK l i ends goes k j out = some t ∧ j ≤ l.length ∧ out.length ≤ 4 * j := hpre
 obtain ⟨hq, hj1, hj2⟩ := id hpre
 rcases k with _ | k
 · cases hq
 show WC prog _ _ _ (upds σ [(0, ptr sb), (1, Iv ends), (2, Iv goes), (6, ptr b1), (7, slV v), (9, Iv j)]) _ (BY v out :: Cl b1 47 [Iv 0, Tx [], Iv 0, Iv 0] :: Cl sb 134 [Sl bb l.length cap, Iv i, slV so] :: Cl bb 5 (l.map u8v ++ sp) :: F)
 refine Sz (Mv (Iv j) (Mv (ptr sb) (Nc sb 0 (Fa sb 0 fa134_0 (Lo sb 0 (Sl bb l.length cap) isAgg22 Z2 rfl (WL_rd (rd_lenS (a := some ⟨bb, 0, none⟩) (k := l.length) runUnderlying22 rfl) (Bo (Iv j) (Iv l.length) (.bool (decide (((j : Nat) : Int) < ((l.length : Nat) : Int)))) eqg_int (binOp_lss _ _ _ _) (Nt ?_))))))))
 cases hb2 : (decide (((j : Nat) : Int) < ((l.length : Nat) : Int)))
 · have hje : l.length ≤ j := by have h9 := hb2; simp only [decide_eq_false_iff_not] at h9; omega
   rw [pieceK, List.getElem?_eq_none hje] at hq
   cases hq
   refine WC_false rfl (WC_exit (At_thenX (At_loopX (At_blockX (At_then (Sr (WL_rd (rd_build (vs := []) (v := .agg #[Iv 0, Tx [], Iv 0, Iv 0]) rfl (bd47_z )) (Sa b1 0 [Iv 0, Tx [], Iv 0, Iv 0] sizeOf47 Z1 (.put (.put (.put (.put .done)))) (Nr ?_)))))))))
   exact At_retC results112 isAgg47 sizeOf47 rfl Z0 rfl (fun w q => ⟨rfl, q.mono (En Z2 (En Z2 D2))⟩)
 have hjl : j < l.length := by have h9 := hb2; simp only [decide_eq_true_eq] at h9; omega
 obtain ⟨c, hc⟩ : ∃ c, l[j]? = some c := ⟨l[j]'hjl, List.getElem?_eq_getElem _⟩
 rw [pieceK, hc] at hq
 dsimp only at hq
 refine WC_true rfl (WC_skip (At_then (WC_block (Sz (Mv (ptr sb) (Nc sb 0 (Fa sb 0 fa134_0 (Lo sb 0 (Sl bb l.length cap) isAgg22 Z2 rfl (Mv (Iv j) (WL_rd (rd_idx1 (j := j) runUnderlying22 sizeOf5 rfl rfl (by omega) (by omega)) (Lo bb j (u8v c) isAgg5 Z3 (bytes_get hc) (Bo (.int .u8 c.toNat) (.int .u8 96) (.bool (((c.toNat : Nat) : Int) == 96)) eqg_int (binOp_eql _ _ _ _) (Nt ?_)))))))))))))
 cases hb3 : (((c.toNat : Nat) : Int) == 96)
 rotate_left 1
 · have g8 : (c == 96) = true := u8_t hb3
   simp only [g8, cond_true, cond_false, Bool.true_or, Bool.false_or] at hq
   refine WC_true rfl (WC_seq (WC_draw [10] [BY v out, Cl sb 134 [Sl bb l.length cap, Iv i, slV so]] mixed (Dt 0 rfl rfl (Q0 (K2 Z0 Z1)) (Rm (Iv ends) rfl) (Dt 1 rfl rfl (Q0 (K2 Z0 Z1)) (Rm (slV v) rfl) (Dt 2 rfl rfl (Q0 (K2 Z0 Z1)) (rd_byStr (v := v) (s := out) rfl Z0) (Dt 3 rfl rfl (Q0 (K2 Z0 Z1)) (Rm (ptr sb) rfl) (Dt 4 rfl rfl (Q0 (K2 Z0 Z1)) (Rn sb 0 rfl) (Dt 5 rfl rfl (Q0 (K2 Z0 Z1)) (Rf sb 0 fa134_1 rfl) (Dt 6 rfl rfl (Q0 (K2 Z0 Z1)) (Rl sb 1 (Iv i) isAgg3 rfl Z1 rfl) (Dt 7 rfl rfl (Q0 (K2 Z0 Z1)) (Rm (Iv j) rfl) (Dt 8 rfl rfl (Q0 (K2 Z0 Z1)) (Rb (Iv j) (Iv 1) (Iv (((j : Nat) : Int) + 1)) rfl rfl eqg_int (bin_add (by omega) (by omega))) (Dt 9 rfl rfl (Q0 (K2 Z0 Z1)) (rd_build (vs := [(0, Iv ends), (1, Tx out), (2, Iv i), (3, Iv (((j : Nat) : Int) + 1))]) (v := .agg #[Iv ends, Tx out, Iv i, Iv (((j : Nat) : Int) + 1)]) rfl (bd47_0_1_2_3 _ _ _ _ rfl rfl rfl rfl )) (WD_ef0 10 (by kernel_rfl) rfl rfl rfl (ef_store (b := b1) (o := 0) (v := .agg #[Iv ends, Tx out, Iv i, Iv (((j : Nat) : Int) + 1)]) (vs := [Iv ends, Tx out, Iv i, Iv (((j : Nat) : Int) + 1)]) sizeOf47 rfl rfl rfl rfl rfl Z1 (.put (.put (.put (.put .done))))) (late_vac (i := 10) (by kernel_rfl) (by decide)) ?_)))))))))))))
   refine WD_done (by kernel_rfl) ?_ _
   refine At_then (WC_ret (At_thenR (At_blockR (At_loopR (At_blockR (At_thenR ?_))))))
   cases hq
   exact At_retC results112 isAgg47 sizeOf47 rfl Z0 rfl (fun w q => ⟨rfl, q.mono (En Z2 (En Z2 D2))⟩)
 have g4 : (c == 96) = false := u8_t hb3
 simp only [g4, cond_true, cond_false, Bool.true_or, Bool.false_or] at hq
 refine Fz (Mv (ptr sb) (Mv (Iv j) (WL_callQ (Δ := [Cl sb 134 [Sl bb l.length cap, Iv i, slV so], Cl bb 5 (l.map u8v ++ sp)]) (v := .bool (hasB l j [36, 123])) call162 rfl (c_has (i := j) (x := [36, 123]) hcap (by omega) (by decide) (by omega)) (K2 Z2 Z2) (Nt ?_))))
 cases hb5 : (hasB l j [36, 123])
 rotate_left 1
 · simp only [hb5, cond_true, cond_false] at hq
   refine WC_true rfl (WC_seq (WC_draw [10] [BY v out, Cl sb 134 [Sl bb l.length cap, Iv i, slV so]] mixed (Dt 0 rfl rfl (Q0 (K2 Z2 Z0)) (Rm (Iv goes) rfl) (Dt 1 rfl rfl (Q0 (K2 Z2 Z0)) (Rm (slV v) rfl) (Dt 2 rfl rfl (Q0 (K2 Z2 Z0)) (rd_byStr (v := v) (s := out) rfl Z0) (Dt 3 rfl rfl (Q0 (K2 Z2 Z0)) (Rm (ptr sb) rfl) (Dt 4 rfl rfl (Q0 (K2 Z2 Z0)) (Rn sb 0 rfl) (Dt 5 rfl rfl (Q0 (K2 Z2 Z0)) (Rf sb 0 fa134_1 rfl) (Dt 6 rfl rfl (Q0 (K2 Z2 Z0)) (Rl sb 1 (Iv i) isAgg3 rfl Z1 rfl) (Dt 7 rfl rfl (Q0 (K2 Z2 Z0)) (Rm (Iv j) rfl) (Dt 8 rfl rfl (Q0 (K2 Z2 Z0)) (Rb (Iv j) (Iv 2) (Iv (((j : Nat) : Int) + 2)) rfl rfl eqg_int (bin_add (by omega) (by omega))) (Dt 9 rfl rfl (Q0 (K2 Z2 Z0)) (rd_build (vs := [(0, Iv goes), (1, Tx out), (2, Iv i), (3, Iv (((j : Nat) : Int) + 2))]) (v := .agg #[Iv goes, Tx out, Iv i, Iv (((j : Nat) : Int) + 2)]) rfl (bd47_0_1_2_3 _ _ _ _ rfl rfl rfl rfl )) (WD_ef0 10 (by kernel_rfl) rfl rfl rfl (ef_store (b := b1) (o := 0) (v := .agg #[Iv goes, Tx out, Iv i, Iv (((j : Nat) : Int) + 2)]) (vs := [Iv goes, Tx out, Iv i, Iv (((j : Nat) : Int) + 2)]) sizeOf47 rfl rfl rfl rfl rfl Z3 (.put (.put (.put (.put .done))))) (late_vac (i := 10) (by kernel_rfl) (by decide)) ?_)))))))))))))
   refine WD_done (by kernel_rfl) ?_ _
   refine At_then (WC_ret (At_thenR (At_blockR (At_loopR (At_blockR (At_thenR ?_))))))
   cases hq
   exact At_retC results112 isAgg47 sizeOf47 rfl Z0 rfl (fun w q => ⟨rfl, q.mono (En Z1 (En Z1 D2))⟩)
 simp only [hb5, cond_true, cond_false] at hq
 refine Fx (Mv (ptr sb) (Mv (Iv j) (Mv (slV v) (WL_callX (Δ0 := [Cl sb 134 [Sl bb l.length cap, Iv i, slV so], Cl bb 5 (l.map u8v ++ sp), BY v out]) (Δ := fun v6 => [Cl sb 134 [Sl bb l.length cap, Iv i, slV so], Cl bb 5 (l.map u8v ++ sp), BY v6 (out ++ (rune1R l j).2.1)]) (v := fun v6 => .tuple #[Iv (((rune1R l j).1 : Nat) : Int), slV v6, .bool ((rune1R l j).2.2)]) call166 rfl (c_rune1 hcap hl hc out (by omega)) (K3 Z0 Z0 Z0) ?_))))
 rintro v6
 refine Mv (.tuple #[Iv (((rune1R l j).1 : Nat) : Int), slV v6, .bool ((rune1R l j).2.2)]) (Xt (Iv (((rune1R l j).1 : Nat) : Int)) (Xt (slV v6) (Xt (.bool ((rune1R l j).2.2)) (Av (Iv (((rune1R l j).1 : Nat) : Int)) (Av (slV v6) (Av (.bool ((rune1R l j).2.2)) (Ny (Mv (.bool ((rune1R l j).2.2)) (WL_rd (rd_not (b := (rune1R l j).2.2) rfl) (Nt ?_))))))))))
 cases hb7 : (!((rune1R l j).2.2))
 · have hok : (rune1R l j).2.2 = true := by have h9 := hb7; simpa using h9
   rw [rune1R_some hok] at hq
   dsimp only at hq
   obtain ⟨hr1, hr2, hr3⟩ := rune1R_bounds hok
   refine WC_false rfl (WC_skip (At_blockN ?_))
   exact At_againF (((rune1R l j).1), (out ++ (rune1R l j).2.1), v6, k) (⟨hq, hr2, by rw [List.length_append]; omega⟩) ⟨rfl, rfl, rfl, rfl, rfl, rfl, trivial⟩ (E4 Z2 Z2 Z0 Z0) (Nat.lt_succ_self _)
 have hok : (rune1R l j).2.2 = false := by have h9 := hb7; simpa using h9
 rw [rune1R_none hok] at hq
 dsimp only at hq
 refine WC_true rfl (WC_exit (At_blockY rfl (At_loopX (At_blockX (At_then (Sr (WL_rd (rd_build (vs := []) (v := .agg #[Iv 0, Tx [], Iv 0, Iv 0]) rfl (bd47_z )) (Sa b1 0 [Iv 0, Tx [], Iv 0, Iv 0] sizeOf47 Z3 (.put (.put (.put (.put .done)))) (Nr ?_)))))))))
 cases hq
 exact At_retC results112 isAgg47 sizeOf47 rfl Z0 rfl (fun w q => ⟨rfl, q.mono (En Z1 (En Z1 D2))⟩)
end
end Go.Proofs

namespace Go.Proofs
open Go.Px Tryz
attribute [local semireducible] WL WC At WD
section
variable {n : Nat} {Q : Post} {ρ : Env} {ds : List Deferred} {Γ Γ' Γ'' F : List HP} {ops : Array Oper} {rest : List Oper} {d : Option Tmp} {t : Tmp} {ty : TypeId} {pos : String} {af : Array Edge} {gd : Option (Nat × Bool)}
theorem ef_range {x : Operand} {s : ByteArray} (hx : evE n ρ x = .string s) :
 Ef prog n ρ ⟨d, .range 9 x, ty, pos, af, gd⟩ Γ (fun b : Nat => .pointer (some ⟨b, 0, none⟩)) (fun b => Blk b (.stringIter s 0) :: Γ) := fun w q => by
 refine ⟨w.heap.size, w.iter s 0, ?_, Sat.push q rfl⟩
 simp only [execOp, hx, Sem.run_bind, run_range_string (P := prog) w 9 s underlying9, Result.andThen_ok, Sem.run_pure]
theorem ef_next {x : Operand} {s : ByteArray} {b k : Nat} (hx : evE n ρ x = .pointer (some ⟨b, 0, none⟩)) (hs : Sel Γ (Blk b (.stringIter s k)) Γ') (hk : k < s.size) :
 Ef prog n ρ ⟨d, .next x true, ty, pos, af, gd⟩ Γ (fun _ : Unit => .tuple #[.bool true, .int .i64 ((k : Nat) : Int), .int .i32 (((Utf8.decode s k).1 : Nat) : Int)]) (fun _ => Blk b (.stringIter s (k + (Utf8.decode s k).2)) :: Γ') := fun w q => by
 have q := q.mono hs.ent
 have hb := Sat.blk q
 have hlt : b < w.heap.size := (Array.getElem?_eq_some_iff.1 hb).1
 refine ⟨(), { w with heap := w.heap.setIfInBounds b (.stringIter s (k + (Utf8.decode s k).2)) }, ?_, Sat.put q (by simp [hlt]) (fun c hc => by simp [Array.getElem?_setIfInBounds, Ne.symm hc])⟩
 simp [execOp, hx, Instr.next, getObj, setObj, Sem.run, hb, Result.andThen, hk, goInt]
theorem rd_nextEnd {x : Operand} {s : ByteArray} {b k : Nat} (hx : evE n ρ x = .pointer (some ⟨b, 0, none⟩)) (hs : Sel Γ (Blk b (.stringIter s k)) Γ') (hk : ¬ k < s.size) :
 Rd prog n ρ ⟨d, .next x true, ty, pos, af, gd⟩ Γ (.tuple #[.bool false]) := fun w q => by
 have hb := Sat.blk (q.mono hs.ent)
 simp [execOp, hx, Instr.next, getObj, Sem.run, hb, Result.andThen, hk]
end
theorem bs_get (l : Bs) (k : Nat) : (bs l).get! k = l.getD k 0 := by
 show (bs l).data[k]! = _
 unfold bs
 rw [List.getD_eq_getElem?_getD]
 by_cases h : k < l.length
 · rw [getElem!_pos _ _ (by simpa using h)]; simp [h]
 rw [getElem!_neg _ _ (by simpa using h), List.getElem?_eq_none (by omega)]; rfl
theorem decode_high {l : Bs} {k : Nat} (hk : k < l.length) (h : 128 ≤ (l.getD k 0).toNat) :
 128 ≤ (Utf8.decode (bs l) k).1 ∧ (Utf8.decode (bs l) k).1 ≤ 1114111 ∧ ((Utf8.decode (bs l) k).1 < 55296 ∨ 57343 < (Utf8.decode (bs l) k).1) ∧ 1 ≤ (Utf8.decode (bs l) k).2 ∧ k + (Utf8.decode (bs l) k).2 ≤ l.length ∧
 ∀ j, k ≤ j → j < k + (Utf8.decode (bs l) k).2 → 128 ≤ (l.getD j 0).toNat := by
 have hone : ∀ j, k ≤ j → j < k + 1 → 128 ≤ (l.getD j 0).toNat := fun j h1 h2 => by
  have : j = k := by omega
  subst this; exact h
 have hbad : 128 ≤ ((Utf8.runeError, 1) : Nat × Nat).1 ∧ ((Utf8.runeError, 1) : Nat × Nat).1 ≤ 1114111 ∧ (((Utf8.runeError, 1) : Nat × Nat).1 < 55296 ∨ 57343 < ((Utf8.runeError, 1) : Nat × Nat).1) ∧ 1 ≤ ((Utf8.runeError, 1) : Nat × Nat).2 ∧ k + ((Utf8.runeError, 1) : Nat × Nat).2 ≤ l.length ∧
  ∀ j, k ≤ j → j < k + ((Utf8.runeError, 1) : Nat × Nat).2 → 128 ≤ (l.getD j 0).toNat := ⟨by decide, by decide, by decide, by decide, by show k + 1 ≤ _; omega, hone⟩
 have hsz : (bs l).size = l.length := bs_size l
 have cont : ∀ i, (decide (k + i < (bs l).size) && (l.getD (k + i) 0).toNat / 64 == 2) = true → k + i < l.length ∧ 128 ≤ (l.getD (k + i) 0).toNat := fun i hc => by
  rw [hsz] at hc
  simp only [Bool.and_eq_true, decide_eq_true_eq, beq_iff_eq] at hc
  omega
 unfold Utf8.decode
 simp only [Nat.add_zero, bs_get]
 rw [if_neg (Nat.not_lt.2 h)]
 split
 · rename_i h1
   simp only [Bool.and_eq_true] at h1
   have c1 := cont 1 (by simpa using h1.2)
   split
   · rename_i h2
     refine ⟨by omega, ?_, ?_, by omega, by omega, fun j a b => ?_⟩
     · have := (l.getD k 0).toNat_lt; omega
     · have := (l.getD k 0).toNat_lt; omega
     · have : j = k ∨ j = k + 1 := by omega
       rcases this with rfl | rfl
       · exact h
       · exact c1.2
   · exact hbad
 split
 · rename_i h1
   simp only [Bool.and_eq_true] at h1
   have c1 := cont 1 (by simpa using h1.1.2)
   have c2 := cont 2 (by simpa using h1.2)
   split
   · rename_i h2
     simp only [Bool.and_eq_true, decide_eq_true_eq, Utf8.valid, Bool.or_eq_true] at h2
     refine ⟨by omega, by omega, by omega, by omega, by omega, fun j a b => ?_⟩
     have : j = k ∨ j = k + 1 ∨ j = k + 2 := by omega
     rcases this with rfl | rfl | rfl
     · exact h
     · exact c1.2
     · exact c2.2
   · exact hbad
 split
 rotate_left 1
 · exact hbad
 rename_i h1
 simp only [Bool.and_eq_true] at h1
 have c1 := cont 1 (by simpa using h1.1.1.2)
 have c2 := cont 2 (by simpa using h1.1.2)
 have c3 := cont 3 (by simpa using h1.2)
 split
 rotate_left 1
 · exact hbad
 rename_i h2
 simp only [Bool.and_eq_true, decide_eq_true_eq, Utf8.valid, Bool.or_eq_true] at h2
 refine ⟨by omega, by omega, by omega, by omega, by omega, fun j a b => ?_⟩
 have : j = k ∨ j = k + 1 ∨ j = k + 2 ∨ j = k + 3 := by omega
 rcases this with rfl | rfl | rfl | rfl
 · exact h
 · exact c1.2
 · exact c2.2
 exact c3.2
theorem decode_low {l : Bs} {k : Nat} (h : (l.getD k 0).toNat < 128) : Utf8.decode (bs l) k = ((l.getD k 0).toNat, 1) := by
 unfold Utf8.decode
 simp only [Nat.add_zero, bs_get]
 rw [if_pos h]
end Go.Proofs

namespace Go.Proofs
open Go.Px Tryz
section
variable {pb tb cap K : Nat} {L : List Tk} {g : NT → M PT} {gx : GX} {rx : RX}
theorem u8_neqT {T : TypeId} {c d : UInt8} (h : c.toNat ≠ d.toNat) : binOp .neq T (u8v c) (u8v d) = pure (.bool true) := by
 have : (((c.toNat : Nat) : Int) != ((d.toNat : Nat) : Int)) = true := bne_iff_ne.2 (by omega)
 unfold u8v; rw [binOp_neq, this]
theorem u8_wrap {r : Nat} (h : r < 128) : IntKind.u8.wrap ((r : Nat) : Int) = (((UInt8.ofNat r).toNat : Nat) : Int) := by
 have e : (UInt8.ofNat r).toNat = r := by rw [UInt8.toNat_ofNat']; omega
 rw [e]; exact IntWalk.u8_in _ ⟨by omega, by omega⟩
theorem getD_of_lt {l : Bs} {j : Nat} (h : j < l.length) : l.getD j 0 = l[j] := by rw [List.getD_eq_getElem?_getD, List.getElem?_eq_getElem h]; rfl
abbrev CH4 : Bs := [32, 9, 13, 10]
def ir4 (r : Nat) : Int := bif decide (r < 128) then Lib.indexByte CH4 (UInt8.ofNat r) else -1
def firstB (s : Bs) : Int := match s.findIdx? blankB with
 | some i => ((i : Nat) : Int)
 | none => -1
theorem bin_subN {T : TypeId} {a b c : Nat} (hb : b ≤ a) (hc : a - b = c) (h : a ≤ 9223372036854775807) : binOp .sub T (Iv (a : Int)) (Iv (b : Int)) = pure (Iv (c : Int)) := by
 subst hc; rw [bin_sub (by omega) (by omega), Int.ofNat_sub hb]
theorem rune_high {r : Nat} (h : 128 ≤ r) (h2 : r ≤ 1114111) : 2 ≤ (runeBs r).length ∧ ∀ c ∈ runeBs r, 128 ≤ c.toNat := by
 unfold runeBs
 cases g1 : decide (r < 128) <;> cases g2 : decide (r < 2048) <;> cases g3 : decide (r < 65536) <;> simp only [decide_eq_true_eq, decide_eq_false_iff_not] at g1 g2 g3 <;> simp only [cond_true, cond_false] <;>
  first | omega | (refine ⟨by simp, fun c hc => ?_⟩; simp only [List.mem_cons, List.not_mem_nil, or_false] at hc; rcases hc with rfl | rfl | rfl | rfl <;> simp <;> omega) | (refine ⟨by simp, fun c hc => ?_⟩; simp only [List.mem_cons, List.not_mem_nil, or_false] at hc; rcases hc with rfl | rfl | rfl <;> simp <;> omega) | (refine ⟨by simp, fun c hc => ?_⟩; simp only [List.mem_cons, List.not_mem_nil, or_false] at hc; rcases hc with rfl | rfl <;> simp <;> omega)
theorem ix_none {l : Bs} {x : UInt8} (h : ∀ c ∈ l, c ≠ x) : Lib.indexByte l x = -1 := by
 induction l with
 | nil => rfl
 | cons c l ih =>
  have h1 := h c (by simp)
  have h2 := ih fun c hc => h c (by simp [hc])
  unfold Lib.indexByte
  simp [h1, h2]
theorem ch4_small : ∀ c ∈ CH4, c.toNat < 128 := by decide
theorem ir4_blank {x : UInt8} (h : x.toNat < 128) : decide (ir4 x.toNat ≥ 0) = blankB x := by
 have key : ∀ n : Fin 128, decide (ir4 n.val ≥ 0) = blankB (UInt8.ofNat n.val) := by decide +kernel
 have := key ⟨x.toNat, h⟩
 have e : UInt8.ofNat x.toNat = x := by simp
 simp only [e] at this
 exact this
theorem ir4_high {r : Nat} (h : 128 ≤ r) : ir4 r = -1 := by unfold ir4; rw [decide_eq_false (by omega)]; rfl
theorem blank_low {x : UInt8} (h : blankB x = true) : x.toNat < 128 := by
 have key : ∀ n : Fin 256, blankB (UInt8.ofNat n.val) = true → n.val < 128 := by decide +kernel
 have e : UInt8.ofNat x.toNat = x := by simp
 exact key ⟨x.toNat, x.toNat_lt⟩ (by simp only [e]; exact h)
theorem first_hit {s : Bs} {k : Nat} (h : k < s.length) (h1 : ∀ j, j < k → blankB (s.getD j 0) = false) (h2 : blankB (s.getD k 0) = true) : firstB s = ((k : Nat) : Int) := by
 unfold firstB
 have : s.findIdx? blankB = some k := by
  rw [List.findIdx?_eq_some_iff_getElem]
  refine ⟨h, ?_, fun j hj => ?_⟩
  · rw [getD_of_lt h] at h2; exact h2
  have := h1 j hj; rw [getD_of_lt (by omega)] at this; rw [this]; decide
 rw [this]
theorem first_none {s : Bs} (h1 : ∀ j, j < s.length → blankB (s.getD j 0) = false) : firstB s = -1 := by
 unfold firstB
 have : s.findIdx? blankB = none := by
  rw [List.findIdx?_eq_none_iff]
  intro x hx
  obtain ⟨j, hj, rfl⟩ := List.getElem_of_mem hx
  have := h1 j hj; rw [getD_of_lt hj] at this; exact this
 rw [this]
theorem first_any (s : Bs) : decide (firstB s ≥ 0) = s.any blankB := by
 unfold firstB
 cases h : s.findIdx? blankB with
 | none =>
  rw [List.findIdx?_eq_none_iff] at h
  rw [Bool.eq_iff_iff]
  simp only [List.any_eq_true, decide_eq_true_eq]
  constructor
  · intro h9; exact absurd h9 (by decide)
  rintro ⟨x, hx, h9⟩; rw [h x hx] at h9; cases h9
 | some k =>
  rw [List.findIdx?_eq_some_iff_getElem] at h
  obtain ⟨h1, h2, _⟩ := h
  rw [Bool.eq_iff_iff]
  simp only [List.any_eq_true, decide_eq_true_eq]
  exact ⟨fun _ => ⟨_, List.getElem_mem h1, h2⟩, fun _ => Int.natCast_nonneg k⟩
theorem c_validRune {r : Nat} (h : r ≤ 1114111) (h2 : r < 55296 ∨ 57343 < r) : ∀ F w, Sat ([] ++ F) w → Calls prog 253 [.int .i32 r].toArray w fun e w' => e = .returned (.bool true) ∧ Sat ([] ++ F) w' := by
 intro F
 refine calls_of_WC (fn := f253) func253 rfl rfl (Sr (Av (.bool false) (Nt (WC_seq (WC_block (Sr (Mv (.int .i32 r) (Bo (.int .i32 0) (.int .i32 r) (.bool (decide (0 ≤ ((r : Nat) : Int)))) eqg_int (binOp_leq _ _ _ _) (Mv (.bool (decide (0 ≤ ((r : Nat) : Int)))) ?_)))))))))
 cases hb1 : (decide (0 ≤ ((r : Nat) : Int)))
 · refine Pa false 6 (Pa false 6 (Pk false (Av (.bool false) (Nt (WC_false rfl (Sr (Mv (.int .i32 r) (Bo (.int .i32 57343) (.int .i32 r) (.bool (decide (57343 < ((r : Nat) : Int)))) eqg_int (binOp_lss _ _ _ _) (Mv (.bool (decide (57343 < ((r : Nat) : Int)))) ?_)))))))))
   cases hb2 : (decide (57343 < ((r : Nat) : Int)))
   · refine Pa false 13 (Pa false 13 (Pk false (Av (.bool false) (Nt (WC_false rfl (WC_skip (At_blockN (At_then (Sr (Av (.bool false) (Nr ?_)))))))))))
     exfalso
     simp only [decide_eq_true_eq, decide_eq_false_iff_not] at hb1 hb2
     omega
   refine Ta true 13 (Mv (.int .i32 r) (Ta true 13 (Bo (.int .i32 r) (.int .i32 1114111) (.bool (decide (((r : Nat) : Int) ≤ 1114111))) eqg_int (binOp_leq _ _ _ _) (Pk true (Av (.bool (decide (((r : Nat) : Int) ≤ 1114111))) (Nt ?_))))))
   cases hb3 : (decide (((r : Nat) : Int) ≤ 1114111))
   · refine WC_false rfl (WC_skip (At_blockN (At_then (Sr (Av (.bool false) (Nr ?_))))))
     exfalso
     simp only [decide_eq_true_eq, decide_eq_false_iff_not] at hb1 hb2 hb3
     omega
   refine Ts (Av (.bool true) (Nr (At_blockR (At_thenR ?_))))
   exact At_ret1 results253 (fun w q => ⟨rfl, q⟩)
 refine Ta true 6 (Mv (.int .i32 r) (Ta true 6 (Bo (.int .i32 r) (.int .i32 55296) (.bool (decide (((r : Nat) : Int) < 55296))) eqg_int (binOp_lss _ _ _ _) (Pk true (Av (.bool (decide (((r : Nat) : Int) < 55296))) (Nt ?_))))))
 cases hb4 : (decide (((r : Nat) : Int) < 55296))
 rotate_left 1
 · refine Ts (Av (.bool true) (Nr (At_blockR (At_thenR ?_))))
   exact At_ret1 results253 (fun w q => ⟨rfl, q⟩)
 refine WC_false rfl (Sr (Mv (.int .i32 r) (Bo (.int .i32 57343) (.int .i32 r) (.bool (decide (57343 < ((r : Nat) : Int)))) eqg_int (binOp_lss _ _ _ _) (Mv (.bool (decide (57343 < ((r : Nat) : Int)))) ?_))))
 cases hb5 : (decide (57343 < ((r : Nat) : Int)))
 · refine Pa false 13 (Pa false 13 (Pk false (Av (.bool false) (Nt (WC_false rfl (WC_skip (At_blockN (At_then (Sr (Av (.bool false) (Nr ?_)))))))))))
   exfalso
   simp only [decide_eq_true_eq, decide_eq_false_iff_not] at hb1 hb4 hb5
   omega
 refine Ta true 13 (Mv (.int .i32 r) (Ta true 13 (Bo (.int .i32 r) (.int .i32 1114111) (.bool (decide (((r : Nat) : Int) ≤ 1114111))) eqg_int (binOp_leq _ _ _ _) (Pk true (Av (.bool (decide (((r : Nat) : Int) ≤ 1114111))) (Nt ?_))))))
 cases hb6 : (decide (((r : Nat) : Int) ≤ 1114111))
 · refine WC_false rfl (WC_skip (At_blockN (At_then (Sr (Av (.bool false) (Nr ?_))))))
   exfalso
   simp only [decide_eq_true_eq, decide_eq_false_iff_not] at hb1 hb4 hb5 hb6
   omega
 refine Ts (Av (.bool true) (Nr (At_blockR (At_thenR ?_))))
 exact At_ret1 results253 (fun w q => ⟨rfl, q⟩)
theorem c_useSet {n : Nat} (h : n ≤ 8) : ∀ F w, Sat ([] ++ F) w → Calls prog 238 [Iv n].toArray w fun e w' => e = .returned (.bool false) ∧ Sat ([] ++ F) w' := by
 intro F
 refine calls_of_WC (fn := f238) func238 rfl rfl (Sr (Av (.bool false) (Ny (Mv (Iv n) (Bo (Iv n) (Iv 8) (.bool false) eqg_int (by rw [binOp_gtr]; rw [decide_eq_false (by omega)]) (Av (.bool false) (Nr ?_)))))))
 exact At_ret1 results238 (fun w q => ⟨rfl, q⟩)
theorem c_indexRune4 {r : Nat} (h : r ≤ 1114111) (h2 : r < 55296 ∨ 57343 < r) : ∀ F w, Sat ([] ++ F) w → Calls prog 237 [Tx CH4, .int .i32 r].toArray w fun e w' => e = .returned (Iv (ir4 r)) ∧ Sat ([] ++ F) w' := by
 intro F
 refine calls_of_WC (fn := f237) func237 rfl rfl (Sr (Av (Iv 0) (Nt (WC_block (Sr (Mv (.int .i32 r) (Bo (.int .i32 0) (.int .i32 r) (.bool true) eqg_int (by rw [binOp_leq]; rw [decide_eq_true (by omega)]) (Mv (.bool true) (Ta true 163 (Mv (.int .i32 r) (Ta true 163 (Bo (.int .i32 r) (.int .i32 128) (.bool (decide (((r : Nat) : Int) < 128))) eqg_int (binOp_lss _ _ _ _) (Pk true (Av (.bool (decide (((r : Nat) : Int) < 128))) (Nt ?_)))))))))))))))
 cases hb1 : (decide (((r : Nat) : Int) < 128))
 rotate_left 1
 · have h128 : r < 128 := by have h9 := hb1; simp only [decide_eq_true_eq] at h9; omega
   refine Ts (Mv (Tx CH4) (Mv (.int .i32 r) (WL_rd (rd_conv (a := ((r : Nat) : Int)) (q := .u8) (b := (((UInt8.ofNat r).toNat : Nat) : Int)) rfl underlying21 underlying5 (u8_wrap h128)) (WL_callQ (Δ := []) (v := Iv (Lib.indexByte CH4 (UInt8.ofNat r))) call161 rfl (c_indexByte CH4 (UInt8.ofNat r)) (.nil) (Av (Iv (Lib.indexByte CH4 (UInt8.ofNat r))) (Nr (At_blockR ?_)))))))
   exact At_ret1 results237 (fun w q => ⟨by unfold ir4; rw [decide_eq_true h128]; rfl, q.mono E0⟩)
 have h128 : 128 ≤ r := by have h9 := hb1; simp only [decide_eq_false_iff_not] at h9; omega
 refine WC_false rfl (Sr (Mv (.int .i32 r) (Bo (.int .i32 r) (.int .i32 65533) (.bool (((r : Nat) : Int) == 65533)) eqg_int (binOp_eql _ _ _ _) (Av (.bool (((r : Nat) : Int) == 65533)) (Nt ?_)))))
 cases hb2 : (((r : Nat) : Int) == 65533)
 rotate_left 1
 · refine WC_true rfl (Sz (Mv (Tx CH4) (WL_ef (ef_range rfl) fun b3 => Nt (WC_block (WC_loopF (α := Nat) (fun x => x ≤ 4) (fun x => [(0, Tx CH4), (1, .int .i32 r), (175, ptr b3)]) (fun x => Blk b3 (.stringIter (bs CH4) x) :: F) (fun x => 4 - x) 0 (show 0 ≤ 4 from by omega) ⟨rfl, rfl, rfl, trivial⟩ (E1 Z0) ?_)))))
   rintro k σ hpre
   replace hpre : k ≤ 4 := hpre
   show WC prog _ _ _ (upds σ [(0, Tx CH4), (1, .int .i32 r), (175, ptr b3)]) _ (Blk b3 (.stringIter (bs CH4) k) :: F)
   rcases Nat.lt_or_ge k 4 with hlt | hge
   · have hsm : (CH4.getD k 0).toNat < 128 := ch4_small _ (by rw [getD_of_lt (show k < CH4.length from hlt)]; exact List.getElem_mem _)
     have hdc : Utf8.decode (bs CH4) k = ((CH4.getD k 0).toNat, 1) := decode_low hsm
     have hlen : CH4.length = 4 := rfl
     refine Sr (WL_ef (ef_next rfl Z0 (by rw [bs_size]; omega)) fun _ => Xt (.bool true) (Nt (WC_seq (WC_true rfl (WC_skip (At_then (WC_block (Sr (Xt (Iv k) (Xt (.int .i32 (((Utf8.decode (bs CH4) k).1 : Nat) : Int)) (Av (Iv k) (Av (.int .i32 (((Utf8.decode (bs CH4) k).1 : Nat) : Int)) (Ny (Mv (.int .i32 (((Utf8.decode (bs CH4) k).1 : Nat) : Int)) (Bo (.int .i32 (((Utf8.decode (bs CH4) k).1 : Nat) : Int)) (.int .i32 65533) (.bool false) eqg_int (by rw [binOp_eql, hdc]; show pure (Value.bool ((((CH4.getD k 0).toNat : Nat) : Int) == 65533)) = _; rw [beq_eq_false_iff_ne.2 (by omega)]) (Nt (WC_false rfl (WC_skip (At_blockN ?_)))))))))))))))))))
     exact At_againF (k + (Utf8.decode (bs CH4) k).2) (by rw [hdc]; show k + 1 ≤ 4; omega) ⟨rfl, rfl, rfl, trivial⟩ (E1 Z0) (show 4 - (k + (Utf8.decode (bs CH4) k).2) < 4 - k by rw [hdc]; show 4 - (k + 1) < 4 - k; omega)
   have hlen : CH4.length = 4 := rfl
   refine Sr (WL_rd (rd_nextEnd (s := bs CH4) (k := k) rfl Z0 (by rw [bs_size]; omega)) (Xt (.bool false) (Nt (WC_seq (WC_false rfl (WC_exit (At_thenX (At_loopX (At_blockX (At_then (Sr (Av (Iv (-1)) (Nr (At_blockR ?_))))))))))))))
   exact At_ret1 results237 (fun w q => ⟨by rw [ir4_high (by omega)]; rfl, q.mono D1⟩)
 refine WC_false rfl (Sr (Mv (.int .i32 r) (WL_callQ (Δ := []) (v := .bool true) call253 rfl (c_validRune h h2) (.nil) (WL_rd (rd_not (b := true) rfl) (Av (.bool false) (Nt (WC_false rfl (WC_scope0 1 rfl (Sr (Mv (.int .i32 r) (WL_rd (rd_rune (r := r) rfl h h2) (Av (Tx (runeBs r)) (Ny (Mv (Tx (runeBs r)) (WL_rd (rd_lenBs (s := (runeBs r)) runUnderlying9 rfl) (Bo (Iv (((runeBs r).length : Nat) : Int)) (Iv 1) (Iv (((runeBs r).length - 1 : Nat) : Int)) eqg_int (bin_subN (a := (runeBs r).length) (b := 1) (by have := (rune_high h128 h).1; omega) rfl (by have := runeBs_len r; omega)) (Av (Iv (((runeBs r).length - 1 : Nat) : Int)) (Ny (Mv (Iv (((runeBs r).length - 1 : Nat) : Int)) (Av (Iv (((runeBs r).length - 1 : Nat) : Int)) (Ny (Av (Iv 0) (Nt (WC_seq (WC_block (WC_loopF (α := Unit) (fun x => True) (fun x => [(0, Tx CH4), (1, .int .i32 r), (7, Tx (runeBs r)), (8, Iv (((runeBs r).length - 1 : Nat) : Int)), (9, Iv (((runeBs r).length - 1 : Nat) : Int)), (10, Iv 0)]) (fun x => F) (fun x => 0) () (show True from trivial) ⟨rfl, rfl, rfl, rfl, rfl, rfl, trivial⟩ E0 ?_))))))))))))))))))))))))))
 rintro u σ hpre
 replace hpre : True := hpre
 have hm := (rune_high h128 h).1
 have hm4 := runeBs_len r
 have hmm : (runeBs r).length - 1 < CH4.length := by show _ < 4; omega
 obtain ⟨ch, hch⟩ : ∃ ch, CH4[(runeBs r).length - 1]? = some ch := ⟨_, List.getElem?_eq_getElem hmm⟩
 obtain ⟨rl, hrl⟩ : ∃ rl, (runeBs r)[(runeBs r).length - 1]? = some rl := ⟨_, List.getElem?_eq_getElem (by omega)⟩
 have hch8 : ch.toNat < 128 := ch4_small _ (List.mem_of_getElem? hch)
 have hrl8 : 128 ≤ rl.toNat := (rune_high h128 h).2 _ (List.mem_of_getElem? hrl)
 have hix : Lib.indexByte (CH4.drop ((runeBs r).length - 1 + 1)) rl = -1 := ix_none fun c hc e => by have := ch4_small c (List.mem_of_mem_drop hc); subst e; omega
 show WC prog _ _ _ (upds σ [(0, Tx CH4), (1, .int .i32 r), (7, Tx (runeBs r)), (8, Iv (((runeBs r).length - 1 : Nat) : Int)), (9, Iv (((runeBs r).length - 1 : Nat) : Int)), (10, Iv 0)]) _ (F)
 refine Sz (Mv (Iv (((runeBs r).length - 1 : Nat) : Int)) (Mv (Tx CH4) (WL_rd (rd_lenBs (s := CH4) runUnderlying9 rfl) (Bo (Iv (((runeBs r).length - 1 : Nat) : Int)) (Iv CH4.length) (.bool true) eqg_int (by rw [binOp_lss, decide_eq_true (by omega)]) (Nt (WC_true rfl (WC_skip (At_then (WC_block (WC_scope0 0 rfl (WC_seq (WC_seq (WC_draw [] [] mixed (Dt 0 rfl rfl (Ent.nil _) (Rm (Tx CH4) rfl) (Dt 1 rfl rfl (Ent.nil _) (Rm (Iv (((runeBs r).length - 1 : Nat) : Int)) rfl) (Dt 2 rfl rfl (Ent.nil _) (rd_indexBs (s := CH4) (j := (runeBs r).length - 1) (c := ch) runUnderlying9 rfl rfl rfl (hch)) (Dt 3 rfl rfl (Ent.nil _) (Rm (Tx (runeBs r)) rfl) (Dt 4 rfl rfl (Ent.nil _) (Rm (Iv (((runeBs r).length - 1 : Nat) : Int)) rfl) (Dt 5 rfl rfl (Ent.nil _) (rd_indexBs (s := (runeBs r)) (j := (runeBs r).length - 1) (c := rl) runUnderlying9 rfl rfl rfl (hrl)) (Dt 6 rfl rfl (Ent.nil _) (Rb (u8v ch) (u8v rl) (.bool true) rfl rfl eqg_int (u8_neqT (by omega))) ?_))))))))))))))))))))
 refine WD_done (by kernel_rfl) ?_ _
 refine At_then (WC_true rfl (WC_seq (WC_draw [8] [] mixed (Dt 0 rfl rfl (Ent.nil _) (Rm (Tx CH4) rfl) (Dt 1 rfl rfl (Ent.nil _) (Rm (Iv (((runeBs r).length - 1 : Nat) : Int)) rfl) (Dt 2 rfl rfl (Ent.nil _) (Rb (Iv (((runeBs r).length - 1 : Nat) : Int)) (Iv 1) (Iv (((runeBs r).length - 1 + 1 : Nat) : Int)) rfl rfl eqg_int (bin_addN rfl (by omega))) (Dt 3 rfl rfl (Ent.nil _) (rd_sliceBs (s := CH4) (j := (runeBs r).length - 1 + 1) runUnderlying9 rfl rfl rfl (by show _ ≤ 4; omega)) (Dt 4 rfl rfl (Ent.nil _) (Rm (Tx (runeBs r)) rfl) (Dt 5 rfl rfl (Ent.nil _) (Rm (Iv (((runeBs r).length - 1 : Nat) : Int)) rfl) (Dt 6 rfl rfl (Ent.nil _) (rd_indexBs (s := (runeBs r)) (j := (runeBs r).length - 1) (c := rl) runUnderlying9 rfl rfl rfl (hrl)) (WD_callP 7 (by kernel_rfl) rfl rfl rfl (Δ0 := []) (Δ := []) (v := Iv (Lib.indexByte (CH4.drop ((runeBs r).length - 1 + 1)) rl)) (run_call call161 (args_map (args := [.string (bs (CH4.drop ((runeBs r).length - 1 + 1))), .int .u8 rl.toNat]) rfl)) (c_indexByte (CH4.drop ((runeBs r).length - 1 + 1)) rl) (.nil) (Ent.nil _) (WD_rd 8 (by kernel_rfl) rfl rfl rfl (Ra (Iv (Lib.indexByte (CH4.drop ((runeBs r).length - 1 + 1)) rl)) rfl) (late_vac (i := 8) (by kernel_rfl) (by decide)) ?_))))))))))))
 refine WD_done (by kernel_rfl) ?_ _
 refine At_then (Sz (Mv (Iv (Lib.indexByte (CH4.drop ((runeBs r).length - 1 + 1)) rl)) (Bo (Iv (Lib.indexByte (CH4.drop ((runeBs r).length - 1 + 1)) rl)) (Iv 0) (.bool true) eqg_int (by rw [binOp_lss, hix]; rfl) (Nt (Ts (Av (Iv (-1)) (Nr (At_thenR (At_thenR (At_scopeR (At_blockR (At_loopR (At_blockR (At_thenR (At_scopeR (At_blockR ?_))))))))))))))))
 exact At_ret1 results237 (fun w q => ⟨by rw [ir4_high (by omega)]; rfl, q.mono E0⟩)
theorem rune_step {s : Bs} {k : Nat} (hk : k < s.length) (hno : ∀ j, j < k → blankB (s.getD j 0) = false) :
 (Utf8.decode (bs s) k).1 ≤ 1114111 ∧ ((Utf8.decode (bs s) k).1 < 55296 ∨ 57343 < (Utf8.decode (bs s) k).1) ∧ 1 ≤ (Utf8.decode (bs s) k).2 ∧
 (decide (ir4 (Utf8.decode (bs s) k).1 ≥ 0) = true → blankB (s.getD k 0) = true) ∧
 (k + (Utf8.decode (bs s) k).2 ≤ s.length ∧ (decide (ir4 (Utf8.decode (bs s) k).1 ≥ 0) = false → ∀ j, j < k + (Utf8.decode (bs s) k).2 → blankB (s.getD j 0) = false)) := by
 rcases Nat.lt_or_ge (s.getD k 0).toNat 128 with h | h
 · rw [decode_low h]
   have hb := ir4_blank h
   refine ⟨by show (s.getD k 0).toNat ≤ _; omega, .inl (by show (s.getD k 0).toNat < _; omega), Nat.le_refl _, fun e => by rw [← hb]; exact e, by show k + 1 ≤ _; omega, fun e j hj => ?_⟩
   rcases Nat.lt_or_ge j k with h1 | h1
   · exact hno j h1
   have : j = k := by have hj : j < k + 1 := hj; omega
   subst this; rw [← hb]; exact e
 obtain ⟨d1, d2, d3, d4, d5, d6⟩ := decode_high hk h
 refine ⟨d2, d3, d4, fun e => ?_, d5, fun e j hj => ?_⟩
 · rw [ir4_high d1] at e; exact absurd e (by decide)
 rcases Nat.lt_or_ge j k with h1 | h1
 · exact hno j h1
 have := d6 j h1 hj
 rw [Bool.eq_false_iff]; intro hb
 have := blank_low hb; omega
theorem c_indexAny4 {s : Bs} (hs : s.length ≤ 8) : ∀ F w, Sat ([] ++ F) w → Calls prog 210 [Tx s, Tx CH4].toArray w fun e w' => e = .returned (Iv (firstB s)) ∧ Sat ([] ++ F) w' := by
 intro F
 refine calls_of_WC (fn := f210) func210 rfl rfl (Sr (Av (Iv 0) (Nz (Mv (Tx CH4) (Bo (Tx CH4) (Tx []) (.bool false) eqg_str (bin_str_eql _ _) (Nt (Fz (Mv (Tx CH4) (WL_rd (rd_lenBs (s := CH4) runUnderlying9 rfl) (Bo (Iv CH4.length) (Iv 1) (.bool false) eqg_int (binOp_eql _ _ _ _) (Nt (Fz (Mv (Tx s) (WL_rd (rd_lenBs (s := s) runUnderlying9 rfl) (WL_callQ (Δ := []) (v := .bool false) call238 rfl (c_useSet hs) (.nil) (Nt (Fz (Mv (Tx s) (WL_ef (ef_range rfl) fun b1 => Nt (WC_block (WC_loopF (α := Nat) (fun x => x ≤ s.length ∧ ∀ j, j < x → blankB (s.getD j 0) = false) (fun x => [(0, Tx s), (1, Tx CH4), (45, ptr b1)]) (fun x => Blk b1 (.stringIter (bs s) x) :: F) (fun x => s.length - x) 0 (show 0 ≤ s.length ∧ ∀ j, j < 0 → blankB (s.getD j 0) = false from ⟨by omega, fun j hj => absurd hj (by omega)⟩) ⟨rfl, rfl, rfl, trivial⟩ (E1 Z0) ?_)))))))))))))))))))))
 rintro k σ hpre
 replace hpre : k ≤ s.length ∧ ∀ j, j < k → blankB (s.getD j 0) = false := hpre
 obtain ⟨hk, hno⟩ := id hpre
 show WC prog _ _ _ (upds σ [(0, Tx s), (1, Tx CH4), (45, ptr b1)]) _ (Blk b1 (.stringIter (bs s) k) :: F)
 rcases Nat.lt_or_ge k s.length with hlt | hge
 · obtain ⟨hdv1, hdv2, hdp, hdq, hnx⟩ := rune_step hlt hno
   refine Sr (WL_ef (ef_next rfl Z0 (by rw [bs_size]; omega)) fun _ => Xt (.bool true) (Nt (WC_seq (WC_true rfl (WC_skip (At_then (WC_block (Sr (Xt (Iv k) (Xt (.int .i32 (((Utf8.decode (bs s) k).1 : Nat) : Int)) (Av (Iv k) (Av (.int .i32 (((Utf8.decode (bs s) k).1 : Nat) : Int)) (Ny (Mv (Tx CH4) (Mv (.int .i32 (((Utf8.decode (bs s) k).1 : Nat) : Int)) (WL_callQ (Δ := []) (v := Iv (ir4 (Utf8.decode (bs s) k).1)) call237 rfl (c_indexRune4 hdv1 hdv2) (.nil) (Bo (Iv (ir4 (Utf8.decode (bs s) k).1)) (Iv 0) (.bool (decide ((ir4 (Utf8.decode (bs s) k).1) ≥ 0))) eqg_int (binOp_geq _ _ _ _) (Nt ?_))))))))))))))))))
   cases hb2 : (decide ((ir4 (Utf8.decode (bs s) k).1) ≥ 0))
   · refine WC_false rfl (WC_skip (At_blockN ?_))
     exact At_againF (k + (Utf8.decode (bs s) k).2) (⟨hnx.1, hnx.2 (by have h9 := hb2; exact h9)⟩) ⟨rfl, rfl, rfl, trivial⟩ (E1 Z0) (show s.length - (k + (Utf8.decode (bs s) k).2) < s.length - k by have := hdp; omega)
   refine Ts (Mv (Iv k) (Av (Iv k) (Nr (At_blockR (At_loopR (At_blockR (At_thenR ?_)))))))
   have e9 : firstB s = ((k : Nat) : Int) := first_hit hlt hno (hdq (by have h9 := hb2; exact h9))
   exact At_ret1 results210 (fun w q => ⟨by rw [e9]; rfl, q.mono D1⟩)
 refine Sr (WL_rd (rd_nextEnd (s := bs s) (k := k) rfl Z0 (by rw [bs_size]; omega)) (Xt (.bool false) (Nt (WC_seq (WC_false rfl (WC_exit (At_thenX (At_loopX (At_blockX (At_then (Sr (Av (Iv (-1)) (Nr ?_)))))))))))))
 have e9 : firstB s = -1 := first_none fun j hj => hno j (by omega)
 exact At_ret1 results210 (fun w q => ⟨by rw [e9]; rfl, q.mono D1⟩)
theorem c_containsAny4 {s : Bs} (hs : s.length ≤ 8) : ∀ F w, Sat ([] ++ F) w → Calls prog 167 [Tx s, Tx CH4].toArray w fun e w' => e = .returned (.bool (s.any blankB)) ∧ Sat ([] ++ F) w' := by
 intro F
 refine calls_of_WC (fn := f167) func167 rfl rfl (Sr (Av (.bool false) (Ny (Mv (Tx s) (Mv (Tx CH4) (WL_callQ (Δ := []) (v := Iv (firstB s)) call210 rfl (c_indexAny4 hs) (.nil) (Bo (Iv (firstB s)) (Iv 0) (.bool (decide ((firstB s) ≥ 0))) eqg_int (binOp_geq _ _ _ _) (Av (.bool (decide ((firstB s) ≥ 0))) (Nr ?_)))))))))
 exact At_ret1 results167 (fun w q => ⟨by rw [← first_any]; rfl, q⟩)
end
end Go.Proofs
