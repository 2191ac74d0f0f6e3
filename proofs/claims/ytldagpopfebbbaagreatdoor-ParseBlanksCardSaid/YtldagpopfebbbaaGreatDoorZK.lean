/- The scanner's open brackets in memory; an element of an array's value; more of the builtins. -/
import Derived.Test.YtldagpopfebbbaaGreatDoorZJ
set_option linter.unusedVariables false
set_option linter.unusedSimpArgs false
namespace Go.Proofs
open Go.Px Tryz
attribute [local semireducible] WL WC At WD
def OB (so : SV) (op : List Bool) : HP := Arr 4 1 (slV so) op.length (op.reverse.map Value.bool)
theorem Tryz.info4 : prog.info? 4 = some t4 := by kernel_rfl
theorem ob_parts {so : SV} {op : List Bool} {h : Hp} (p : OB so op h) : so.2.1 = op.length ∧ ((so = (none, 0, 0) ∧ op = []) ∨ ∃ b cap sp, so = (some ⟨b, 0, none⟩, op.length, cap) ∧ op.length ≤ cap ∧ Cl b 4 (op.reverse.map Value.bool ++ sp) h) := by
 obtain ⟨hl, ⟨e, hm⟩ | ⟨b, cap, sp, e, h1, h2, h3, h4⟩⟩ := p
 · obtain ⟨a, n, c⟩ := so
   simp only [slV, Value.slice.injEq] at e
   obtain ⟨rfl, rfl, rfl⟩ := e
   exact ⟨hm.symm, .inl ⟨rfl, List.eq_nil_of_length_eq_zero hm⟩⟩
 obtain ⟨a, n, c⟩ := so
 simp only [slV, Value.slice.injEq] at e
 obtain ⟨rfl, rfl, rfl⟩ := e
 exact ⟨rfl, .inr ⟨b, c, sp, rfl, h1, h4⟩⟩
theorem ob_pop {so : SV} {op : List Bool} {Γ : List HP} : Ent (OB so op :: Γ) (OB (so.1, op.length - 1, so.2.2) op.tail :: Γ) := Ent.head fun h p => by
 obtain ⟨hl, hv⟩ := p
 refine ⟨by simp, ?_⟩
 rcases hv with ⟨e, hm⟩ | ⟨b, cap, sp, e, h1, h2, h3, h4⟩
 · left
   obtain ⟨a, n, c⟩ := so
   simp only [slV, Value.slice.injEq] at e
   obtain ⟨rfl, rfl, rfl⟩ := e
   have : op = [] := List.eq_nil_of_length_eq_zero hm
   subst this
   exact ⟨rfl, rfl⟩
 right
 obtain ⟨a, n, c⟩ := so
 simp only [slV, Value.slice.injEq] at e
 obtain ⟨rfl, rfl, rfl⟩ := e
 cases op with
 | nil => exact ⟨b, c, sp, rfl, by simp, h2, h3, h4⟩
 | cons o op =>
  refine ⟨b, c, .bool o :: sp, rfl, by simp at h1 ⊢; omega, h2, ?_, ?_⟩
  · simp at h3 ⊢; omega
  simpa using h4
section
variable {n : Nat} {Q : Post} {ρ : Env} {ds : List Deferred} {Γ Γ' Γ'' F : List HP} {ops : Array Oper} {rest : List Oper} {d : Option Tmp} {t : Tmp} {ty : TypeId} {pos : String} {af : Array Edge} {gd : Option (Nat × Bool)}
theorem ef_pushB {x y : Operand} {so : SV} {op : List Bool} {b : Bool} {b2 : Nat} (hx : evE n ρ x = slV so) (hy : evE n ρ y = .slice (some ⟨b2, 0, none⟩) 1 1) (hs : Sels Γ [OB so op, Cl b2 4 [.bool b]] Γ') (hb : op.length ≤ 70368744177664) :
 Ef prog n ρ ⟨d, .call ⟨.builtin .append, #[x, y], #[132, 132]⟩, ty, pos, af, gd⟩ Γ slV (fun v' => OB v' (b :: op) :: Γ') := fun w q => by
 have q : Sat (OB so op :: Cl b2 4 [.bool b] :: Γ') w := q.mono hs.ent
 obtain ⟨s', w', hr, hS⟩ := ef_append (d := d) (ty := ty) (pos := pos) (af := af) (gd := gd) (e := 4) (z := .bool false) (sz := 1) (bytes := 1) (m := op.length) (m2 := 1) (c2 := 1) (o2 := 0) (news := [.bool b]) underlying132 info4 rfl rfl rfl rfl (by decide) (by decide) hx hy .zero .zero rfl rfl rfl (by omega) w q
 refine ⟨s', w', hr, ?_⟩
 have hS : Sat (Arr 4 1 (slV s') (op.length + 1) (op.reverse.map Value.bool ++ [.bool b]) :: Γ') w' := hS.mono (Ent.tail (Ent.dropHead (.refl _)))
 have e2 : (b :: op).reverse.map Value.bool = op.reverse.map Value.bool ++ [.bool b] := by simp
 unfold OB
 rw [e2]; exact hS
theorem rd_lenOB {x : Operand} {T E : TypeId} {so : SV} {op : List Bool} (hU : ∀ w, (underlying T).run prog w = .ok (.slice E) w) (hx : evE n ρ x = slV so) (hs : Sel Γ (OB so op) Γ') :
 Rd prog n ρ ⟨d, .call ⟨.builtin .len, #[x], #[T]⟩, ty, pos, af, gd⟩ Γ (.int .i64 ((op.length : Nat) : Int)) := fun w q => by
 obtain ⟨_, _, _, p, _⟩ := q.mono hs.ent
 have := rd_lenS (P := prog) (n := n) (ρ := ρ) (d := d) (ty := ty) (pos := pos) (af := af) (gd := gd) (Γ := Γ) hU hx w q
 rw [(ob_parts p).1] at this
 exact this
theorem rd_max0 {P : Program} {x y : Operand} {ts : Array TypeId} {k : IntKind} {a b : Int} (hx : evE n ρ x = .int k a) (hy : evE n ρ y = .int k b) :
 Rd P n ρ ⟨d, .call ⟨.builtin .max, #[x, y], ts⟩, ty, pos, af, gd⟩ Γ (.int k (if b > a then b else a)) := fun w _ => by
 simp [execOp, resolve, invoke, builtin, Builtin.max_, Builtin.max2, hx, hy]
theorem rd_maxI {x y : Operand} {us : Array TypeId} {k : IntKind} {a b c : Int} (hx : evE n ρ x = .int k a) (hy : evE n ρ y = .int k b) (hc : max a b = c) :
 Rd prog n ρ ⟨d, .call ⟨.builtin .max, #[x, y], us⟩, ty, pos, af, gd⟩ Γ (.int k c) := fun w q9 => by
 subst hc
 have e : (if b > a then b else a) = max a b := by rw [Int.max_def]; split <;> split <;> omega
 have h0 := rd_max0 (P := prog) (n := n) (ρ := ρ) (Γ := Γ) (d := d) (ty := ty) (pos := pos) (af := af) (gd := gd) (ts := us) hx hy
 rw [e] at h0
 exact h0 w ‹_›
theorem rd_popB {x z : Operand} {T : TypeId} {E : TypeId} {so : SV} {op : List Bool} {a : Int} {k : IntKind} (hU : ∀ w, (underlying T).run prog w = .ok (.slice E) w) (hS : ∀ w, (sizeOf E).run prog w = .ok 1 w)
 (hx : evE n ρ x = slV so) (hz : evE n ρ z = .int k a) (ha : a = ((op.length - 1 : Nat) : Int)) (hs : Sel Γ (OB so op) Γ') :
 Rd prog n ρ ⟨d, .slice T x none (some z) none, ty, pos, af, gd⟩ Γ (slV (so.1, op.length - 1, so.2.2)) := fun w q => by
 subst ha
 obtain ⟨_, _, _, p, _⟩ := q.mono hs.ent
 obtain ⟨hl, hv⟩ := ob_parts p
 rcases hv with ⟨rfl, rfl⟩ | ⟨b, cap, sp, rfl, hc, _⟩
 · simp [execOp, Instr.sliceAt, Instr.slice, Instr.sliceBounds, Instr.sliceBound, hx, hz, asIntOf, hU, hS, slV]
 have e1 : ((0 : Int) ≤ ((op.length - 1 : Nat) : Int) ∧ ((op.length - 1 : Nat) : Int) ≤ (cap : Int)) := ⟨Int.natCast_nonneg _, by omega⟩
 simp only [execOp, Instr.sliceAt, Instr.slice, Instr.sliceBounds, Instr.sliceBound, hx, hz, slV, asIntOf, Sem.run_bind, Sem.run_pure, Result.andThen_ok, hU, hS, Option.map_some, Option.map_none, if_pos e1, Int.toNat_natCast]
 simp [Addr.add]
theorem rd_indexArr {x y : Operand} {T E : TypeId} {m j : Nat} {k : IntKind} {a : Int} {vs : Array Value} {v : Value} (hU : ∀ w, (underlying T).run prog w = .ok (.array m E) w) (hS : ∀ w, (sizeOf E).run prog w = .ok 1 w) (hA : ∀ w, (isAgg E).run prog w = .ok false w)
 (hx : evE n ρ x = .agg vs) (hy : evE n ρ y = .int k a) (ha : a = (j : Int)) (hj : j < m) (hv : vs[j]? = some v) : Rd prog n ρ ⟨d, .index T x y, ty, pos, af, gd⟩ Γ v := fun w _ => by
 subst ha
 have e : ((0 : Int) ≤ (j : Int) ∧ (j : Int) < (m : Int)) := ⟨Int.natCast_nonneg j, by omega⟩
 simp only [execOp, Instr.index, hx, hy, asIntOf, Sem.run_bind, Sem.run_pure, Result.andThen_ok, hU, hS, if_pos e, Int.toNat_natCast, part, hA]
 simp [hv]
end
end Go.Proofs

namespace Go.Px
attribute [local semireducible] WL WC At WD
section
variable {P : Program} {n : Nat} {Q : Post} {ρ : Env} {ds : List Deferred} {Γ Γ' Γ0 : List HP} {ops : Array Oper} {late : List Nat} {fuel : Nat} {L : Array Bool}
def Irr (Q : Post) : Prop := ∀ c ρ ρ' ds w, Q (.panic c) ρ ds w → Q (.panic c) ρ' ds w
theorem lift_panicI (hQ : Irr Q) {c : List PanicEntry} {a : Act} {t : Tmp} {v : Value} {w : World} (ht : Nat.blt t n = true) (h : lift n Q (.panic c) (a.put (some t) v) w) : lift n Q (.panic c) a w := by
 obtain ⟨ρ, hk, h⟩ := h
 refine ⟨fun t => bif Nat.blt t n then a.tmps.getD t undef else undef, fun u hu => ?_, hQ _ _ _ _ _ h⟩
 have e2 : ∀ ρ : Env, evE n ρ (.tmp u) = bif Nat.blt u n then ρ u else undef := fun _ => rfl
 cases hb : Nat.blt u n with
 | true => rw [e2, hb]; simp only [hb, cond_true]
 | false =>
  have hne : t ≠ u := fun e => by rw [e, hb] at ht; cases ht
  have := hk u hu
  have e : (a.put (some t) v).tmps.getD u undef = a.tmps.getD u undef := by
   show (a.tmps.setIfInBounds t v).getD u undef = _
   rw [Array.getD_eq_getD_getElem?, Array.getD_eq_getD_getElem?, Array.getElem?_setIfInBounds_ne hne]
  rw [e] at this
  rw [this, e2, e2, hb]; rfl
def takeOkI (ops : Array Oper) (late : List Nat) (L : Array Bool) (i : Nat) : Bool :=
 Region.noSelect ops && Region.free .any ops L i && (Region.ready .any ops L).contains i && !late.contains i &&
 late.all fun d => !(L.getD d true) && match ops[d]? with
  | none => true
  | some o => o.after.any fun e => Region.binds .any e && e.on == i
theorem WDI_takeY (hQ : Irr Q) (i : Nat) {o : Oper} {t : Tmp} {v : Value} (ho : ops[i]? = some o) (hd : o.dst = some t) (hn : Nat.blt t n = true) (hok : takeOkI ops late L i = true) (hE : Ent Γ Γ0) (hy : YieldsIf P ops (Sat Γ0) o v (actOf n ρ ds))
 (k : WD P n ops late Γ0 fuel (L.setIfInBounds i true) Q (upd ρ t v) ds Γ) : WD P n ops late Γ0 (fuel + 1) L Q ρ ds Γ := fun w s => by
 simp only [takeOkI, Bool.and_eq_true] at hok
 obtain ⟨⟨⟨⟨h1, h2⟩, h3⟩, h4⟩, h5⟩ := hok
 rw [List.all_eq_true] at h5
 refine wpAnyG_first ho (Region.noSelect_spec h1) (v := v) (fun c a w h => lift_panicI hQ hn (by rw [hd] at h; exact h)) (by simpa using h4) ?_ fuel L _ w ?_ (Region.free_spec ho h2) (by simpa using h3) hy (s.mono hE) ?_
 · intro d hd o ho
   have := h5 d hd
   simp only [ho, Bool.and_eq_true, Array.any_eq_true'] at this
   obtain ⟨_, e, he, hb⟩ := this
   exact ⟨e, he, hb.1, by simpa using hb.2⟩
 · intro d hd
   have := h5 d hd
   simp only [Bool.and_eq_true, Bool.not_eq_true'] at this
   exact this.1
 rw [actOf_put, hd]
 exact k w s
theorem WDI_take (hQ : Irr Q) (i : Nat) {o : Oper} {t : Tmp} {v : Value} (ho : ops[i]? = some o) (hd : o.dst = some t) (hn : Nat.blt t n = true) (hok : takeOkI ops late L i = true) (hg : o.guard = none) (hE : Ent Γ Γ0) (hr : Rd P n ρ o Γ0 v)
 (k : WD P n ops late Γ0 fuel (L.setIfInBounds i true) Q (upd ρ t v) ds Γ) : WD P n ops late Γ0 (fuel + 1) L Q ρ ds Γ :=
 WDI_takeY hQ i ho hd hn hok hE (.inl ⟨by simp [Region.wanted, hg], fun w' hw' => by rw [actOf_eval]; exact hr w' hw'⟩) k
end
end Go.Px

namespace Go.Proofs
open Go.Px Tryz
section
variable {pb tb cap K : Nat} {L : List Tk} {g : NT → M PT} {gx : GX} {rx : RX}
theorem ix_blank (c : UInt8) : decide (Lib.indexByte [32, 9, 10, 13] c ≥ 0) = blankB c := by
 have key : ∀ n : Fin 256, decide (Lib.indexByte [32, 9, 10, 13] (UInt8.ofNat n.val) ≥ 0) = blankB (UInt8.ofNat n.val) := by decide +kernel
 have e : UInt8.ofNat c.toNat = c := by simp
 have := key ⟨c.toNat, c.toNat_lt⟩
 simp only [e] at this
 exact this
theorem signL_short {l : Bs} {i n : Nat} {s : Bs} {rest : List (Nat × Bs)} (h : l.length - i < n) : signL l i ((n, s) :: rest) = signL l i rest := by
 rw [signL, decide_eq_true h]; rfl
theorem signL_no {l : Bs} {i n : Nat} {s : Bs} {rest : List (Nat × Bs)} (h : ¬ l.length - i < n) (h2 : ((cutT l 9 i (i + n)).text.any blankB || !Lib.contains s ([32] ++ (cutT l 9 i (i + n)).text ++ [32])) = true) : signL l i ((n, s) :: rest) = signL l i rest := by
 rw [signL, decide_eq_false h]; dsimp only; rw [cond_false, h2]; rfl
theorem signL_yes {l : Bs} {i n : Nat} {s : Bs} {rest : List (Nat × Bs)} (h : ¬ l.length - i < n) (h2 : ((cutT l 9 i (i + n)).text.any blankB || !Lib.contains s ([32] ++ (cutT l 9 i (i + n)).text ++ [32])) = false) : signL l i ((n, s) :: rest) = cutT l 9 i (i + n) := by
 rw [signL, decide_eq_false h]; dsimp only; rw [cond_false, h2]; rfl
def opS (t : Bs) (op : List Bool) : List Bool := bif t == [123] then false :: op else bif t == [125] then op.tail else op
theorem cut_text_len (l : Bs) (k : Int) (i j : Nat) : (cutT l k i j).text.length ≤ j - i := by unfold cutT; exact List.length_take_le _ _
theorem rd_bstrLo {n : Nat} {ρ : Env} {Γ Γ' : List HP} {d : Option Tmp} {ty : TypeId} {pos : String} {af : Array Edge} {gd : Option (Nat × Bool)} {x : Operand} {l : Bs} {sp : List Value} {bb i cap : Nat} (hx : evE n ρ x = bslV bb i l.length cap) (h1 : i ≤ l.length) (hc : l.length ≤ cap) (hs : Sel Γ (Cl bb 5 (l.map u8v ++ sp)) Γ') :
 Rd prog n ρ ⟨d, .convert 22 9 x, ty, pos, af, gd⟩ Γ (Tx (l.drop i)) := by
 rcases Nat.lt_or_ge i cap with hlt | hge
 · have := rd_bstr (d := d) (ty := ty) (pos := pos) (af := af) (gd := gd) (j := l.length) hx h1 (Nat.le_refl _) hc hs underlying22 underlying5 underlying9
   rwa [List.take_of_length_le (by rw [List.length_drop]; omega)] at this
 have := rd_bstr (d := d) (ty := ty) (pos := pos) (af := af) (gd := gd) (j := l.length) hx h1 (Nat.le_refl _) hc hs underlying22 underlying5 underlying9
 rwa [List.take_of_length_le (by rw [List.length_drop]; omega)] at this
theorem c_blanks {l : Bs} {i0 K jf : Nat} {b : Bool} {sb bb cap : Nat} {sp : List Value} {so : SV} (hcap : l.length ≤ cap) (hl : l.length ≤ 1048576) (hi : i0 ≤ l.length) (hK : blanksK l K i0 = some (b, jf)) : ∀ F w, Sat ([Cl sb 134 [Sl bb l.length cap, Iv i0, slV so], Cl bb 5 (l.map u8v ++ sp), (GMx gx)] ++ F) w → Calls prog 106 [ptr sb].toArray w fun e w' => e = .returned (.bool b) ∧ Sat ([Cl sb 134 [Sl bb l.length cap, Iv jf, slV so], Cl bb 5 (l.map u8v ++ sp), (GMx gx)] ++ F) w' := by
 intro F
 refine calls_of_WC (fn := f106) func106 rfl rfl (Sr (Av (.bool false) (Nt (WC_scope0 0 rfl (WC_seq (WC_label (At_then (WC_seq (WC_block (WC_loopF (α := Nat × Nat) (fun x => blanksK l x.2 x.1 = some (b, jf) ∧ x.1 ≤ l.length) (fun x => [(0, ptr sb)]) (fun x => Cl sb 134 [Sl bb l.length cap, Iv x.1, slV so] :: Cl bb 5 (l.map u8v ++ sp) :: (GMx gx) :: F) (fun x => x.2) (i0, K) (show blanksK l K i0 = some (b, jf) ∧ i0 ≤ l.length from ⟨hK, hi⟩) ⟨rfl, trivial⟩ (E3 Z0 Z0 Z0) ?_))))))))))
 rintro ⟨i, k⟩ σ hpre
 replace hpre : blanksK l k i = some (b, jf) ∧ i ≤ l.length := hpre
 obtain ⟨hq, hil⟩ := id hpre
 rcases k with _ | k
 · cases hq
 show WC prog _ _ _ (upds σ [(0, ptr sb)]) _ (Cl sb 134 [Sl bb l.length cap, Iv i, slV so] :: Cl bb 5 (l.map u8v ++ sp) :: (GMx gx) :: F)
 refine WC_seq (WC_seq (WC_draw [] [Cl sb 134 [Sl bb l.length cap, Iv i, slV so]] mixed (WDI_take (fun _ _ _ _ _ h => h) 0 rfl rfl rfl (by kernel_rfl) rfl (Q0 (K1 Z0)) (Rm (ptr sb) rfl) (WDI_take (fun _ _ _ _ _ h => h) 1 rfl rfl rfl (by kernel_rfl) rfl (Q0 (K1 Z0)) (Rn sb 0 rfl) (WDI_take (fun _ _ _ _ _ h => h) 2 rfl rfl rfl (by kernel_rfl) rfl (Q0 (K1 Z0)) (Rf sb 0 fa134_1 rfl) (Dt 3 rfl rfl (Q0 (K1 Z0)) (Rl sb 1 (Iv i) isAgg3 rfl Z0 rfl) (Dt 4 rfl rfl (Q0 (K1 Z0)) (Rm (ptr sb) rfl) (Dt 5 rfl rfl (Q0 (K1 Z0)) (Rn sb 0 rfl) (Dt 6 rfl rfl (Q0 (K1 Z0)) (Rf sb 0 fa134_0 rfl) (Dt 7 rfl rfl (Q0 (K1 Z0)) (Rl sb 0 (Sl bb l.length cap) isAgg22 rfl Z0 rfl) (Dt 8 rfl rfl (Q0 (K1 Z0)) (rd_lenS (a := some ⟨bb, 0, none⟩) (k := l.length) runUnderlying22 rfl) (Dt 9 rfl rfl (Q0 (K1 Z0)) (Rb (Iv i) (Iv l.length) (.bool (decide (((i : Nat) : Int) < ((l.length : Nat) : Int)))) rfl rfl eqg_int (binOp_lss _ _ _ _)) ?_))))))))))))
 refine WD_done (by kernel_rfl) ?_ _
 refine At_then ?_
 cases hb1 : (decide (((i : Nat) : Int) < ((l.length : Nat) : Int)))
 · have hje : l.length ≤ i := by have h9 := hb1; simp only [decide_eq_false_iff_not] at h9; omega
   rw [blanksK, List.getElem?_eq_none hje] at hq
   refine WC_false rfl (WC_exit (At_thenX (At_loopX (At_blockX (At_then (Sr (Av (.bool true) (Nr (At_scopeR ?_)))))))))
   cases hq
   exact At_ret1 results106 (fun w q => ⟨rfl, q.mono (E3 Z0 Z0 Z0)⟩)
 have hjl : i < l.length := by have h9 := hb1; simp only [decide_eq_true_eq] at h9; omega
 obtain ⟨c, hc⟩ : ∃ c, l[i]? = some c := ⟨l[i]'hjl, List.getElem?_eq_getElem _⟩
 rw [blanksK, hc] at hq
 dsimp only at hq
 refine WC_true rfl (WC_skip (At_then (WC_block (WC_block (WC_seq (WC_draw [] [Cl sb 134 [Sl bb l.length cap, Iv i, slV so], Cl bb 5 (l.map u8v ++ sp)] mixed (Dt 0 rfl rfl (Q0 (K2 Z0 Z0)) (Rm (ptr sb) rfl) (Dt 1 rfl rfl (Q0 (K2 Z0 Z0)) (Rn sb 0 rfl) (Dt 2 rfl rfl (Q0 (K2 Z0 Z0)) (Rf sb 0 fa134_0 rfl) (Dt 3 rfl rfl (Q0 (K2 Z0 Z0)) (Rl sb 0 (Sl bb l.length cap) isAgg22 rfl Z0 rfl) (Dt 4 rfl rfl (Q0 (K2 Z0 Z0)) (Rm (ptr sb) rfl) (Dt 5 rfl rfl (Q0 (K2 Z0 Z0)) (Rn sb 0 rfl) (Dt 6 rfl rfl (Q0 (K2 Z0 Z0)) (Rf sb 0 fa134_1 rfl) (Dt 7 rfl rfl (Q0 (K2 Z0 Z0)) (Rl sb 1 (Iv i) isAgg3 rfl Z0 rfl) (Dt 8 rfl rfl (Q0 (K2 Z0 Z0)) (rd_idx1 (j := i) runUnderlying22 sizeOf5 rfl rfl (by omega) (by omega)) (Dt 9 rfl rfl (Q0 (K2 Z0 Z0)) (Rl bb i (u8v c) isAgg5 rfl Z1 (bytes_get hc)) (WD_callP 10 (by kernel_rfl) rfl rfl rfl (Δ0 := []) (Δ := []) (v := Iv (Lib.indexByte [32, 9, 10, 13] c)) (run_call call161 (args_map (args := [Tx [32, 9, 10, 13], .int .u8 c.toNat]) rfl)) (c_indexByte [32, 9, 10, 13] c) (.nil) (Q0 (K2 Z0 Z0)) (WD_rd 11 (by kernel_rfl) rfl rfl rfl (Rb (Iv (Lib.indexByte [32, 9, 10, 13] c)) (Iv 0) (.bool (decide ((Lib.indexByte [32, 9, 10, 13] c) ≥ 0))) rfl rfl eqg_int (binOp_geq _ _ _ _)) (fun _ => Q0 (K2 Z0 Z0)) (WD_rd 12 (by kernel_rfl) rfl rfl rfl (Ra (.bool (decide ((Lib.indexByte [32, 9, 10, 13] c) ≥ 0))) rfl) (fun _ => Q0 (K2 Z0 Z0)) ?_)))))))))))))))))))
 refine WD_done (by kernel_rfl) ?_ _
 refine At_then ?_
 cases hb2 : (decide ((Lib.indexByte [32, 9, 10, 13] c) ≥ 0))
 rotate_left 1
 · have hbl : blankB c = true := by rw [← ix_blank]; exact hb2
   simp only [hbl, cond_true, cond_false] at hq
   refine Tr (Mv (ptr sb) (Nc sb 0 (Fa sb 0 fa134_1 (Lo sb 1 (Iv i) isAgg3 Z0 rfl (Bo (Iv i) (Iv 1) (Iv (((i + 1 : Nat) : Int))) eqg_int (bin_addN rfl (by omega)) (Nc sb 0 (Fa sb 0 fa134_1 (S1 sb 1 (Iv ((i + 1 : Nat) : Int)) sizeOf3 Z0 (.skip (.put .done)) (WL_nil (At_blockN (At_blockN ?_)))))))))))
   exact At_againF ((i + 1), k) (⟨hq, by omega⟩) ⟨rfl, trivial⟩ (E3 Z0 Z0 Z0) (Nat.lt_succ_self _)
 have hbl : blankB c = false := by rw [← ix_blank]; exact hb2
 simp only [hbl, cond_true, cond_false] at hq
 refine WC_false rfl (Sr (Mv (ptr sb) (Mv (ptr sb) (Nc sb 0 (Fa sb 0 fa134_1 (Lo sb 1 (Iv i) isAgg3 Z0 rfl (WL_callQ (Δ := [Cl sb 134 [Sl bb l.length cap, Iv i, slV so], Cl bb 5 (l.map u8v ++ sp)]) (v := .bool (hasB l i [47, 47])) call162 rfl (c_has (i := i) (x := [47, 47]) hcap (by omega) (by decide) (by omega)) (K2 Z0 Z0) (Av (.bool (hasB l i [47, 47])) (Nt ?_)))))))))
 cases hb3 : (hasB l i [47, 47])
 · simp only [hb3, cond_true, cond_false] at hq
   refine WC_false rfl (Sr (Mv (ptr sb) (Mv (ptr sb) (Nc sb 0 (Fa sb 0 fa134_1 (Lo sb 1 (Iv i) isAgg3 Z0 rfl (WL_callQ (Δ := [Cl sb 134 [Sl bb l.length cap, Iv i, slV so], Cl bb 5 (l.map u8v ++ sp)]) (v := .bool (hasB l i [47, 42])) call162 rfl (c_has (i := i) (x := [47, 42]) hcap (by omega) (by decide) (by omega)) (K2 Z0 Z0) (Av (.bool (hasB l i [47, 42])) (Nt ?_)))))))))
   cases hb4 : (hasB l i [47, 42])
   · simp only [hb4, cond_true, cond_false] at hq
     refine WC_false rfl (WC_exit (At_blockY rfl (At_blockY rfl (At_loopX (At_blockX (At_then (Sr (Av (.bool true) (Nr (At_scopeR ?_))))))))))
     cases hq
     exact At_ret1 results106 (fun w q => ⟨rfl, q.mono (E3 Z0 Z0 Z0)⟩)
   simp only [hb4, cond_true, cond_false] at hq
   have hlx := hasB_len hb4 (by decide)
   simp only [List.length_cons, List.length_nil] at hlx
   refine WC_true rfl (WC_seq (WC_draw [12] [Cl sb 134 [Sl bb l.length cap, Iv i, slV so], Cl bb 5 (l.map u8v ++ sp)] mixed (Dt 0 rfl rfl (Q0 (K2 Z0 Z0)) (Rm (ptr sb) rfl) (Dt 1 rfl rfl (Q0 (K2 Z0 Z0)) (Rn sb 0 rfl) (Dt 2 rfl rfl (Q0 (K2 Z0 Z0)) (Rf sb 0 fa134_0 rfl) (Dt 3 rfl rfl (Q0 (K2 Z0 Z0)) (Rl sb 0 (Sl bb l.length cap) isAgg22 rfl Z0 rfl) (Dt 4 rfl rfl (Q0 (K2 Z0 Z0)) (Rm (ptr sb) rfl) (Dt 5 rfl rfl (Q0 (K2 Z0 Z0)) (Rn sb 0 rfl) (Dt 6 rfl rfl (Q0 (K2 Z0 Z0)) (Rf sb 0 fa134_1 rfl) (Dt 7 rfl rfl (Q0 (K2 Z0 Z0)) (Rl sb 1 (Iv i) isAgg3 rfl Z0 rfl) (Dt 8 rfl rfl (Q0 (K2 Z0 Z0)) (Rb (Iv i) (Iv 2) (Iv (((i + 2 : Nat) : Int))) rfl rfl eqg_int (bin_addN rfl (by omega))) (Dt 9 rfl rfl (Q0 (K2 Z0 Z0)) (rd_sliceLo (i := (i + 2)) runUnderlying22 sizeOf5 rfl rfl (rfl) (by omega) hcap) (Dt 10 rfl rfl (Q0 (K2 Z0 Z0)) (rd_bstrLo (i := i + 2) rfl (by omega) hcap Z1) (WD_callP 11 (by kernel_rfl) rfl rfl rfl (Δ0 := [(GMx gx)]) (Δ := [(GMx gx)]) (v := Iv (Lib.index (l.drop (i + 2)) [42, 47])) (run_call call163 (args_map (args := [.string (bs (l.drop (i + 2))), Tx [42, 47]]) rfl)) (c_index (l.drop (i + 2)) [42, 47] (by rw [List.length_drop]; omega)) (K1 Z2) (Q0 (K2 Z1 Z1)) (WD_rd 12 (by kernel_rfl) rfl rfl rfl (Ra (Iv (Lib.index (l.drop (i + 2)) [42, 47])) rfl) (late_vac (i := 12) (by kernel_rfl) (by decide)) ?_)))))))))))))))
   refine WD_done (by kernel_rfl) ?_ _
   refine At_then (Sz (Mv (Iv (Lib.index (l.drop (i + 2)) [42, 47])) (Bo (Iv (Lib.index (l.drop (i + 2)) [42, 47])) (Iv 0) (.bool (decide ((Lib.index (l.drop (i + 2)) [42, 47]) < 0))) eqg_int (binOp_lss _ _ _ _) (Nt ?_))))
   cases hb5 : (decide ((Lib.index (l.drop (i + 2)) [42, 47]) < 0))
   rotate_left 1
   · have hix : Lib.index (l.drop (i + 2)) [42, 47] < 0 := by have h9 := hb5; simpa using h9
     rw [decide_eq_true hix] at hq
     simp only [cond_true] at hq
     refine Ts (Av (.bool false) (Nr (At_thenR (At_blockR (At_blockR (At_loopR (At_blockR (At_thenR (At_scopeR ?_)))))))))
     cases hq
     exact At_ret1 results106 (fun w q => ⟨rfl, q.mono (E3 Z1 Z1 Z0)⟩)
   have hix : ¬ Lib.index (l.drop (i + 2)) [42, 47] < 0 := by have h9 := hb5; simpa using h9
   rw [decide_eq_false hix] at hq
   simp only [cond_false] at hq
   have hrm := Lib.index_room (l.drop (i + 2)) [42, 47] (by omega)
   simp only [List.length_drop, List.length_cons, List.length_nil] at hrm
   refine Fs (WC_region (Mv (ptr sb) (Nc sb 0 (Fa sb 0 fa134_1 (Lo sb 1 (Iv i) isAgg3 Z1 rfl (Mv (Iv (Lib.index (l.drop (i + 2)) [42, 47])) (Bo (Iv (Lib.index (l.drop (i + 2)) [42, 47])) (Iv 4) (Iv (Lib.index (l.drop (i + 2)) [42, 47] + 4)) eqg_int (bin_add (by omega) (by omega)) (Bo (Iv i) (Iv (Lib.index (l.drop (i + 2)) [42, 47] + 4)) (Iv ((i + (Lib.index (l.drop (i + 2)) [42, 47]).toNat + 4 : Nat) : Int)) eqg_int (by rw [bin_add (by omega) (by omega)]; congr 2; omega) (Nc sb 0 (Fa sb 0 fa134_1 (S1 sb 1 (Iv ((i + (Lib.index (l.drop (i + 2)) [42, 47]).toNat + 4 : Nat) : Int)) sizeOf3 Z1 (.skip (.put .done)) (WL_nil (At_blockN (At_blockN ?_))))))))))))))
   exact At_againF ((i + (Lib.index (l.drop (i + 2)) [42, 47]).toNat + 4), k) (⟨hq, by omega⟩) ⟨rfl, trivial⟩ (E3 Z0 Z1 Z0) (Nat.lt_succ_self _)
 simp only [hb3, cond_true, cond_false] at hq
 have hlx := hasB_len hb3 (by decide)
 simp only [List.length_cons, List.length_nil] at hlx
 refine WC_true rfl (WC_block (WC_loopF (α := Nat) (fun x => runInv (fun c => c != 10) l i x) (fun x => [(0, ptr sb)]) (fun x => Cl sb 134 [Sl bb l.length cap, Iv x, slV so] :: Cl bb 5 (l.map u8v ++ sp) :: (GMx gx) :: F) (fun x => l.length - x) i (show runInv (fun c => c != 10) l i i from ⟨Nat.le_refl _, by omega, rfl⟩) ⟨rfl, trivial⟩ (E3 Z0 Z0 Z0) ?_))
 rintro j σ hpre
 replace hpre : runInv (fun c => c != 10) l i j := hpre
 obtain ⟨hi1, hi2, hi3⟩ := id hpre
 show WC prog _ _ _ (upds σ [(0, ptr sb)]) _ (Cl sb 134 [Sl bb l.length cap, Iv j, slV so] :: Cl bb 5 (l.map u8v ++ sp) :: (GMx gx) :: F)
 refine WC_seq (WC_seq (WC_draw [] [Cl sb 134 [Sl bb l.length cap, Iv j, slV so], Cl bb 5 (l.map u8v ++ sp)] mixed (Dt 0 rfl rfl (Q0 (K2 Z0 Z0)) (Rm (ptr sb) rfl) (Dt 1 rfl rfl (Q0 (K2 Z0 Z0)) (Rn sb 0 rfl) (Dt 2 rfl rfl (Q0 (K2 Z0 Z0)) (Rf sb 0 fa134_1 rfl) (Dt 3 rfl rfl (Q0 (K2 Z0 Z0)) (Rl sb 1 (Iv j) isAgg3 rfl Z0 rfl) (Dt 4 rfl rfl (Q0 (K2 Z0 Z0)) (Rm (ptr sb) rfl) (Dt 5 rfl rfl (Q0 (K2 Z0 Z0)) (Rn sb 0 rfl) (Dt 6 rfl rfl (Q0 (K2 Z0 Z0)) (Rf sb 0 fa134_0 rfl) (Dt 7 rfl rfl (Q0 (K2 Z0 Z0)) (Rl sb 0 (Sl bb l.length cap) isAgg22 rfl Z0 rfl) (Dt 8 rfl rfl (Q0 (K2 Z0 Z0)) (rd_lenS (a := some ⟨bb, 0, none⟩) (k := l.length) runUnderlying22 rfl) (Dt 9 rfl rfl (Q0 (K2 Z0 Z0)) (Rb (Iv j) (Iv l.length) (.bool (decide (((j : Nat) : Int) < ((l.length : Nat) : Int)))) rfl rfl eqg_int (binOp_lss _ _ _ _)) (Dt 10 rfl rfl (Q0 (K2 Z0 Z0)) (Rm (.bool (decide (((j : Nat) : Int) < ((l.length : Nat) : Int)))) rfl) ?_)))))))))))))
 cases hb6 : (decide (((j : Nat) : Int) < ((l.length : Nat) : Int)))
 · have hje2 : l.length ≤ j := by have h9 := hb6; simp only [decide_eq_false_iff_not] at h9; omega
   have hjr : j = i + runOf (fun c => c != 10) l i := by rw [runOf_end hje2] at hi3; omega
   refine WD_skipG 11 (b' := false) (e := 51) rfl rfl (by kernel_rfl) rfl rfl rfl rfl (Q0 (K2 Z0 Z0)) (WD_skipG 12 (b' := false) (e := 51) rfl rfl (by kernel_rfl) rfl rfl rfl rfl (Q0 (K2 Z0 Z0)) (WD_skipG 13 (b' := false) (e := 51) rfl rfl (by kernel_rfl) rfl rfl rfl rfl (Q0 (K2 Z0 Z0)) (WD_skipG 14 (b' := false) (e := 51) rfl rfl (by kernel_rfl) rfl rfl rfl rfl (Q0 (K2 Z0 Z0)) (WD_skipG 15 (b' := false) (e := 51) rfl rfl (by kernel_rfl) rfl rfl rfl rfl (Q0 (K2 Z0 Z0)) (WD_skipG 16 (b' := false) (e := 51) rfl rfl (by kernel_rfl) rfl rfl rfl rfl (Q0 (K2 Z0 Z0)) (WD_skipG 17 (b' := false) (e := 51) rfl rfl (by kernel_rfl) rfl rfl rfl rfl (Q0 (K2 Z0 Z0)) (WD_skipG 18 (b' := false) (e := 51) rfl rfl (by kernel_rfl) rfl rfl rfl rfl (Q0 (K2 Z0 Z0)) (WD_skipG 19 (b' := false) (e := 51) rfl rfl (by kernel_rfl) rfl rfl rfl rfl (Q0 (K2 Z0 Z0)) (WD_skipG 20 (b' := false) (e := 51) rfl rfl (by kernel_rfl) rfl rfl rfl rfl (Q0 (K2 Z0 Z0)) (WD_skipG 21 (b' := false) (e := 51) rfl rfl (by kernel_rfl) rfl rfl rfl rfl (Q0 (K2 Z0 Z0)) (Dt 22 rfl rfl (Q0 (K2 Z0 Z0)) (rd_pick (b := false) rfl) ?_)))))))))))
   refine WD_done (by kernel_rfl) ?_ _
   refine At_then (WC_false rfl (WC_exit (At_thenX (At_loopX (At_blockX (At_blockN (At_blockN ?_)))))))
   exact At_againF (j, k) (⟨by rw [hjr]; exact hq, hi2⟩) ⟨rfl, trivial⟩ (E3 Z0 Z0 Z0) (Nat.lt_succ_self _)
 have hjl2 : j < l.length := by have h9 := hb6; simp only [decide_eq_true_eq] at h9; omega
 obtain ⟨c2, hc2⟩ : ∃ c2, l[j]? = some c2 := ⟨l[j]'hjl2, List.getElem?_eq_getElem _⟩
 refine WD_takeG 11 (b' := true) (e := 51) rfl rfl (by kernel_rfl) rfl rfl rfl rfl (Q0 (K2 Z0 Z0)) (Rm (ptr sb) rfl) (WD_takeG 12 (b' := true) (e := 51) rfl rfl (by kernel_rfl) rfl rfl rfl rfl (Q0 (K2 Z0 Z0)) (Rn sb 0 rfl) (WD_takeG 13 (b' := true) (e := 51) rfl rfl (by kernel_rfl) rfl rfl rfl rfl (Q0 (K2 Z0 Z0)) (Rf sb 0 fa134_0 rfl) (WD_takeG 14 (b' := true) (e := 51) rfl rfl (by kernel_rfl) rfl rfl rfl rfl (Q0 (K2 Z0 Z0)) (Rl sb 0 (Sl bb l.length cap) isAgg22 rfl Z0 rfl) (WD_takeG 15 (b' := true) (e := 51) rfl rfl (by kernel_rfl) rfl rfl rfl rfl (Q0 (K2 Z0 Z0)) (Rm (ptr sb) rfl) (WD_takeG 16 (b' := true) (e := 51) rfl rfl (by kernel_rfl) rfl rfl rfl rfl (Q0 (K2 Z0 Z0)) (Rn sb 0 rfl) (WD_takeG 17 (b' := true) (e := 51) rfl rfl (by kernel_rfl) rfl rfl rfl rfl (Q0 (K2 Z0 Z0)) (Rf sb 0 fa134_1 rfl) (WD_takeG 18 (b' := true) (e := 51) rfl rfl (by kernel_rfl) rfl rfl rfl rfl (Q0 (K2 Z0 Z0)) (Rl sb 1 (Iv j) isAgg3 rfl Z0 rfl) (WD_takeG 19 (b' := true) (e := 51) rfl rfl (by kernel_rfl) rfl rfl rfl rfl (Q0 (K2 Z0 Z0)) (rd_idx1 (j := j) runUnderlying22 sizeOf5 rfl rfl (by omega) (by omega)) (WD_takeG 20 (b' := true) (e := 51) rfl rfl (by kernel_rfl) rfl rfl rfl rfl (Q0 (K2 Z0 Z0)) (Rl bb j (u8v c2) isAgg5 rfl Z1 (bytes_get hc2)) (WD_takeG 21 (b' := true) (e := 51) rfl rfl (by kernel_rfl) rfl rfl rfl rfl (Q0 (K2 Z0 Z0)) (Rb (.int .u8 c2.toNat) (.int .u8 10) (.bool (((c2.toNat : Nat) : Int) != 10)) rfl rfl eqg_int (binOp_neq _ _ _ _)) (Dt 22 rfl rfl (Q0 (K2 Z0 Z0)) (rd_pick (b := true) rfl) ?_)))))))))))
 refine WD_done (by kernel_rfl) ?_ _
 refine At_then ?_
 cases hb7 : (((c2.toNat : Nat) : Int) != 10)
 · have h10 : (c2 != 10) = false := u8_n hb7
   have hjr : j = i + runOf (fun c => c != 10) l i := by rw [runOf_stop hc2 h10] at hi3; omega
   refine WC_false rfl (WC_exit (At_thenX (At_loopX (At_blockX (At_blockN (At_blockN ?_))))))
   exact At_againF (j, k) (⟨by rw [hjr]; exact hq, hi2⟩) ⟨rfl, trivial⟩ (E3 Z0 Z0 Z0) (Nat.lt_succ_self _)
 have h10 : (c2 != 10) = true := u8_n hb7
 refine WC_true rfl (WC_skip (At_then (WC_block (WC_region (Mv (ptr sb) (Nc sb 0 (Fa sb 0 fa134_1 (Lo sb 1 (Iv j) isAgg3 Z0 rfl (Bo (Iv j) (Iv 1) (Iv (((j + 1 : Nat) : Int))) eqg_int (bin_addN rfl (by omega)) (Nc sb 0 (Fa sb 0 fa134_1 (S1 sb 1 (Iv ((j + 1 : Nat) : Int)) sizeOf3 Z0 (.skip (.put .done)) (WL_nil (At_blockN ?_))))))))))))))
 exact At_againF (j + 1) (runInv_next hpre hc2 h10) ⟨rfl, trivial⟩ (E3 Z0 Z0 Z0) (show l.length - (j + 1) < l.length - j by omega)
end
end Go.Proofs

namespace Go.Proofs
open Go.Px Tryz
section
variable {pb tb cap K : Nat} {L : List Tk} {g : NT → M PT} {gx : GX} {rx : RX}
theorem Tryz.bd167_0_1_2 (c0 c1 c2 : Value) (h0 : isOne c0 = true) (h1 : isOne c1 = true) (h2 : isOne c2 = true) (w : World) : (Instr.build 167 #[(0, c0), (1, c1), (2, c2)]).run prog w = .ok (.agg #[c0, c1, c2]) w := by
 simp [Instr.build, Instr.fill, cells_agg, cells_one h0, cells_one h1, cells_one h2]
theorem ob_nil {Γ : List HP} : Ent Γ (OB (none, 0, 0) [] :: Γ) := arr_nil 4 1 Γ
theorem c_sign {l : Bs} {i : Nat} {sb bb cap : Nat} {sp : List Value} {so : SV} {op : List Bool} (hcap : l.length ≤ cap) (hl : l.length ≤ 1048576) (hi : i ≤ l.length) (hop : op.length ≤ 1099511627776) : ∀ F w, Sat ([Cl sb 134 [Sl bb l.length cap, Iv i, slV so], Cl bb 5 (l.map u8v ++ sp), OB so op, (GMx gx)] ++ F) w → Calls prog 113 [ptr sb].toArray w fun e w' => ∃ so' : SV, e = .returned (tkVal (signL l i signs3)) ∧ Sat ([Cl sb 134 [Sl bb l.length cap, Iv i, slV so'], Cl bb 5 (l.map u8v ++ sp), OB so' (opS (signL l i signs3).text op), (GMx gx)] ++ F) w' := by
 intro F
 refine calls_of_WC (fn := f113) func113 rfl rfl (Sr (WL_ef (ef_alloc (l := [Iv 0, Tx [], Iv 0, Iv 0]) zeroValue47 rfl) fun b1 => Ny (WL_rd (rd_build (vs := [(0, Tx [32, 61, 61, 61, 32, 33, 61, 61, 32, 62, 62, 62, 32]), (1, Tx [32, 61, 62, 32, 43, 61, 32, 45, 61, 32, 42, 61, 32, 37, 61, 32, 60, 61, 32, 62, 61, 32, 60, 60, 32, 62, 62, 32, 38, 38, 32, 124, 124, 32]), (2, Tx [32, 123, 32, 125, 32, 40, 32, 41, 32, 91, 32, 93, 32, 46, 32, 44, 32, 59, 32, 58, 32, 63, 32, 61, 32, 43, 32, 45, 32, 42, 32, 37, 32, 33, 32, 126, 32, 60, 32, 62, 32, 38, 32, 124, 32, 94, 32])]) (v := .agg #[Tx [32, 61, 61, 61, 32, 33, 61, 61, 32, 62, 62, 62, 32], Tx [32, 61, 62, 32, 43, 61, 32, 45, 61, 32, 42, 61, 32, 37, 61, 32, 60, 61, 32, 62, 61, 32, 60, 60, 32, 62, 62, 32, 38, 38, 32, 124, 124, 32], Tx [32, 123, 32, 125, 32, 40, 32, 41, 32, 91, 32, 93, 32, 46, 32, 44, 32, 59, 32, 58, 32, 63, 32, 61, 32, 43, 32, 45, 32, 42, 32, 37, 32, 33, 32, 126, 32, 60, 32, 62, 32, 38, 32, 124, 32, 94, 32]]) rfl (bd167_0_1_2 _ _ _ rfl rfl rfl)) (WL_ef (ef_alloc (l := [Tx [], Tx [], Tx []]) zeroValue167 rfl) fun b2 => Sa b2 0 [Tx [32, 61, 61, 61, 32, 33, 61, 61, 32, 62, 62, 62, 32], Tx [32, 61, 62, 32, 43, 61, 32, 45, 61, 32, 42, 61, 32, 37, 61, 32, 60, 61, 32, 62, 61, 32, 60, 60, 32, 62, 62, 32, 38, 38, 32, 124, 124, 32], Tx [32, 123, 32, 125, 32, 40, 32, 41, 32, 91, 32, 93, 32, 46, 32, 44, 32, 59, 32, 58, 32, 63, 32, 61, 32, 43, 32, 45, 32, 42, 32, 37, 32, 33, 32, 126, 32, 60, 32, 62, 32, 38, 32, 124, 32, 94, 32]] sizeOf167 Z0 (.put (.put (.put .done))) (Nz (WL_rd (rd_loadN (b := b2) (o := 0) (vs := [Tx [32, 61, 61, 61, 32, 33, 61, 61, 32, 62, 62, 62, 32], Tx [32, 61, 62, 32, 43, 61, 32, 45, 61, 32, 42, 61, 32, 37, 61, 32, 60, 61, 32, 62, 61, 32, 60, 60, 32, 62, 62, 32, 38, 38, 32, 124, 124, 32], Tx [32, 123, 32, 125, 32, 40, 32, 41, 32, 91, 32, 93, 32, 46, 32, 44, 32, 59, 32, 58, 32, 63, 32, 61, 32, 43, 32, 45, 32, 42, 32, 37, 32, 33, 32, 126, 32, 60, 32, 62, 32, 38, 32, 124, 32, 94, 32]]) isAgg167 sizeOf167 rfl Z0 rfl rfl) (Mv (Iv 0) (Nt (WC_block (WC_loopF (α := Nat) (fun x => x ≤ 3 ∧ signL l i signs3 = signL l i (signs3.drop x)) (fun x => [(0, ptr sb), (2, ptr b1), (9, .agg #[Tx [32, 61, 61, 61, 32, 33, 61, 61, 32, 62, 62, 62, 32], Tx [32, 61, 62, 32, 43, 61, 32, 45, 61, 32, 42, 61, 32, 37, 61, 32, 60, 61, 32, 62, 61, 32, 60, 60, 32, 62, 62, 32, 38, 38, 32, 124, 124, 32], Tx [32, 123, 32, 125, 32, 40, 32, 41, 32, 91, 32, 93, 32, 46, 32, 44, 32, 59, 32, 58, 32, 63, 32, 61, 32, 43, 32, 45, 32, 42, 32, 37, 32, 33, 32, 126, 32, 60, 32, 62, 32, 38, 32, 124, 32, 94, 32]]), (10, Iv x)]) (fun x => Cl b2 167 [Tx [32, 61, 61, 61, 32, 33, 61, 61, 32, 62, 62, 62, 32], Tx [32, 61, 62, 32, 43, 61, 32, 45, 61, 32, 42, 61, 32, 37, 61, 32, 60, 61, 32, 62, 61, 32, 60, 60, 32, 62, 62, 32, 38, 38, 32, 124, 124, 32], Tx [32, 123, 32, 125, 32, 40, 32, 41, 32, 91, 32, 93, 32, 46, 32, 44, 32, 59, 32, 58, 32, 63, 32, 61, 32, 43, 32, 45, 32, 42, 32, 37, 32, 33, 32, 126, 32, 60, 32, 62, 32, 38, 32, 124, 32, 94, 32]] :: Cl b1 47 [Iv 0, Tx [], Iv 0, Iv 0] :: Cl sb 134 [Sl bb l.length cap, Iv i, slV so] :: Cl bb 5 (l.map u8v ++ sp) :: OB so op :: (GMx gx) :: F) (fun x => 3 - x) 0 (show 0 ≤ 3 ∧ signL l i signs3 = signL l i (signs3.drop 0) from ⟨by omega, rfl⟩) ⟨rfl, rfl, rfl, rfl, trivial⟩ (En Z0 (En Z0 (E4 Z0 Z0 Z0 Z0))) ?_))))))))))
 rintro k σ hpre
 replace hpre : k ≤ 3 ∧ signL l i signs3 = signL l i (signs3.drop k) := hpre
 obtain ⟨hk3, hS⟩ := id hpre
 show WC prog _ _ _ (upds σ [(0, ptr sb), (2, ptr b1), (9, .agg #[Tx [32, 61, 61, 61, 32, 33, 61, 61, 32, 62, 62, 62, 32], Tx [32, 61, 62, 32, 43, 61, 32, 45, 61, 32, 42, 61, 32, 37, 61, 32, 60, 61, 32, 62, 61, 32, 60, 60, 32, 62, 62, 32, 38, 38, 32, 124, 124, 32], Tx [32, 123, 32, 125, 32, 40, 32, 41, 32, 91, 32, 93, 32, 46, 32, 44, 32, 59, 32, 58, 32, 63, 32, 61, 32, 43, 32, 45, 32, 42, 32, 37, 32, 33, 32, 126, 32, 60, 32, 62, 32, 38, 32, 124, 32, 94, 32]]), (10, Iv k)]) _ (Cl b2 167 [Tx [32, 61, 61, 61, 32, 33, 61, 61, 32, 62, 62, 62, 32], Tx [32, 61, 62, 32, 43, 61, 32, 45, 61, 32, 42, 61, 32, 37, 61, 32, 60, 61, 32, 62, 61, 32, 60, 60, 32, 62, 62, 32, 38, 38, 32, 124, 124, 32], Tx [32, 123, 32, 125, 32, 40, 32, 41, 32, 91, 32, 93, 32, 46, 32, 44, 32, 59, 32, 58, 32, 63, 32, 61, 32, 43, 32, 45, 32, 42, 32, 37, 32, 33, 32, 126, 32, 60, 32, 62, 32, 38, 32, 124, 32, 94, 32]] :: Cl b1 47 [Iv 0, Tx [], Iv 0, Iv 0] :: Cl sb 134 [Sl bb l.length cap, Iv i, slV so] :: Cl bb 5 (l.map u8v ++ sp) :: OB so op :: (GMx gx) :: F)
 obtain rfl | rfl | rfl | rfl : k = 0 ∨ k = 1 ∨ k = 2 ∨ k = 3 := by omega
 · have hS : signL l i signs3 = signL l i ((3, [32, 61, 61, 61, 32, 33, 61, 61, 32, 62, 62, 62, 32]) :: signs3.drop 1) := hS
   refine Sr (Bo (Iv ((0 : Nat) : Int)) (Iv 3) (.bool true) eqg_int rfl (Nt (WC_seq (WC_true rfl (WC_skip (At_then (WC_seq (WC_block (Sr (Mv (Iv ((0 : Nat) : Int)) (WL_rd (rd_indexArr (j := 0) (v := Tx [32, 61, 61, 61, 32, 33, 61, 61, 32, 62, 62, 62, 32]) runUnderlying167 sizeOf9 isAgg9 rfl rfl rfl (by decide) rfl) (Av (Iv ((0 : Nat) : Int)) (Av (Tx [32, 61, 61, 61, 32, 33, 61, 61, 32, 62, 62, 62, 32]) (Ny (Mv (Iv ((0 : Nat) : Int)) (Bo (Iv 3) (Iv ((0 : Nat) : Int)) (Iv ((3 : Nat) : Int)) eqg_int rfl (Av (Iv ((3 : Nat) : Int)) (Nt (WC_seq (WC_seq (WC_draw [] [Cl sb 134 [Sl bb l.length cap, Iv i, slV so]] mixed (Dt 0 rfl rfl (Q0 (K1 Z2)) (Rm (ptr sb) rfl) (Dt 1 rfl rfl (Q0 (K1 Z2)) (Rn sb 0 rfl) (Dt 2 rfl rfl (Q0 (K1 Z2)) (Rf sb 0 fa134_0 rfl) (Dt 3 rfl rfl (Q0 (K1 Z2)) (Rl sb 0 (Sl bb l.length cap) isAgg22 rfl Z0 rfl) (Dt 4 rfl rfl (Q0 (K1 Z2)) (rd_lenS (a := some ⟨bb, 0, none⟩) (k := l.length) runUnderlying22 rfl) (Dt 5 rfl rfl (Q0 (K1 Z2)) (Rm (ptr sb) rfl) (Dt 6 rfl rfl (Q0 (K1 Z2)) (Rn sb 0 rfl) (Dt 7 rfl rfl (Q0 (K1 Z2)) (Rf sb 0 fa134_1 rfl) (Dt 8 rfl rfl (Q0 (K1 Z2)) (Rl sb 1 (Iv i) isAgg3 rfl Z0 rfl) (Dt 9 rfl rfl (Q0 (K1 Z2)) (Rb (Iv l.length) (Iv i) (Iv ((l.length - i : Nat) : Int)) rfl rfl eqg_int (bin_subN (by omega) rfl (by omega))) (Dt 10 rfl rfl (Q0 (K1 Z2)) (Rm (Iv ((3 : Nat) : Int)) rfl) (Dt 11 rfl rfl (Q0 (K1 Z2)) (Rb (Iv ((l.length - i : Nat) : Int)) (Iv ((3 : Nat) : Int)) (.bool (decide (((l.length - i : Nat) : Int) < ((3 : Nat) : Int)))) rfl rfl eqg_int (binOp_lss _ _ _ _)) ?_)))))))))))))))))))))))))))))))))
   refine WD_done (by kernel_rfl) ?_ _
   refine At_then ?_
   cases hb3 : (decide (((l.length - i : Nat) : Int) < ((3 : Nat) : Int)))
   rotate_left 1
   · have hsh : l.length - i < 3 := by have h9 := hb3; simp only [decide_eq_true_eq] at h9; omega
     refine WC_true rfl (WC_exit (At_thenX (At_blockX (At_then (WC_region (Bo (Iv ((0 : Nat) : Int)) (Iv 1) (Iv ((1 : Nat) : Int)) eqg_int rfl (Mv (Iv ((1 : Nat) : Int)) (WL_nil ?_))))))))
     exact At_againF 1 (⟨by omega, hS.trans (signL_short hsh)⟩) ⟨rfl, rfl, rfl, rfl, trivial⟩ (En Z0 (En Z0 (E4 Z0 Z0 Z0 Z0))) (show 3 - 1 < 3 - 0 by omega)
   have hsh : ¬ l.length - i < 3 := by have h9 := hb3; simp only [decide_eq_false_iff_not] at h9; omega
   refine Fx (Mv (ptr sb) (Mv (ptr sb) (Nc sb 0 (Fa sb 0 fa134_1 (Lo sb 1 (Iv i) isAgg3 Z2 rfl (Mv (Iv ((3 : Nat) : Int)) (Bo (Iv i) (Iv ((3 : Nat) : Int)) (Iv ((i + 3 : Nat) : Int)) eqg_int (bin_addN rfl (by omega)) (WL_callQ (Δ := [Cl sb 134 [Sl bb l.length cap, Iv i, slV so], Cl bb 5 (l.map u8v ++ sp)]) (v := .agg #[Iv ((cutT l 9 i (i + 3)).kind), .string (bs (cutT l 9 i (i + 3)).text), Iv ((cutT l 9 i (i + 3)).pos), Iv ((cutT l 9 i (i + 3)).en)]) call164 rfl (c_cut (l := l) (i := i) (j := (i + 3)) hcap (by omega) (by omega)) (K2 Z2 Z2) (WL_ef (ef_alloc (l := [Iv 0, Tx [], Iv 0, Iv 0]) zeroValue47 rfl) fun b4 => Sa b4 0 [Iv ((cutT l 9 i (i + 3)).kind), .string (bs (cutT l 9 i (i + 3)).text), Iv ((cutT l 9 i (i + 3)).pos), Iv ((cutT l 9 i (i + 3)).en)] sizeOf47 Z0 (.put (.put (.put (.put .done)))) (Nz (Fa b4 0 fa47_1 (Lo b4 1 (.string (bs (cutT l 9 i (i + 3)).text)) isAgg9 Z0 rfl (WL_callQ (Δ := []) (v := .bool (((cutT l 9 i (i + 3)).text).any blankB)) call167 rfl (c_containsAny4 (s := ((cutT l 9 i (i + 3)).text)) (by have := cut_text_len l 9 i (i + 3); omega)) (.nil) (Mv (.bool (((cutT l 9 i (i + 3)).text).any blankB)) ?_))))))))))))))
   cases hb5 : (((cutT l 9 i (i + 3)).text).any blankB)
   rotate_left 1
   · refine Pa true 39 (Pa true 39 (Pa true 39 (Pa true 39 (Pa true 39 (Pa true 39 (Pa true 39 (Pk true (Nt (WC_true rfl (WC_exit (At_thenX (At_blockX (At_then (WC_region (Bo (Iv ((0 : Nat) : Int)) (Iv 1) (Iv ((1 : Nat) : Int)) eqg_int rfl (Mv (Iv ((1 : Nat) : Int)) (WL_nil ?_)))))))))))))))))
     exact At_againF 1 (⟨by omega, hS.trans (signL_no hsh (by rw [hb5]; rfl))⟩) ⟨rfl, rfl, rfl, rfl, trivial⟩ (En Z3 (En Z3 (En Z1 (En Z1 (En Z1 (En Z1 D1)))))) (show 3 - 1 < 3 - 0 by omega)
   refine Ta false 39 (Mv (Tx [32, 61, 61, 61, 32, 33, 61, 61, 32, 62, 62, 62, 32]) (Ta false 39 (Fa b4 0 fa47_1 (Ta false 39 (Lo b4 1 (.string (bs (cutT l 9 i (i + 3)).text)) isAgg9 Z0 rfl (Ta false 39 (WL_rd (rd_addBs (a := [32]) (b := ((cutT l 9 i (i + 3)).text)) rfl rfl (by have := cut_text_len l 9 i (i + 3); simp only [List.length_append, List.length_cons, List.length_nil]; omega)) (Ta false 39 (WL_rd (rd_addBs (a := ([32] ++ ((cutT l 9 i (i + 3)).text))) (b := [32]) rfl rfl (by have := cut_text_len l 9 i (i + 3); simp only [List.length_append, List.length_cons, List.length_nil]; omega)) (Ta false 39 (WL_callQ (Δ := [(GMx gx)]) (v := .bool (Lib.contains [32, 61, 61, 61, 32, 33, 61, 61, 32, 62, 62, 62, 32] (([32] ++ ((cutT l 9 i (i + 3)).text)) ++ [32]))) call168 rfl (c_contains [32, 61, 61, 61, 32, 33, 61, 61, 32, 62, 62, 62, 32] (([32] ++ ((cutT l 9 i (i + 3)).text)) ++ [32]) (by decide)) (K1 (.succ (.succ Z4))) (Ta false 39 (WL_rd (rd_not (b := Lib.contains [32, 61, 61, 61, 32, 33, 61, 61, 32, 62, 62, 62, 32] (([32] ++ ((cutT l 9 i (i + 3)).text)) ++ [32])) rfl) (Pk false (Nt ?_)))))))))))))))
   cases hb6 : (!(Lib.contains [32, 61, 61, 61, 32, 33, 61, 61, 32, 62, 62, 62, 32] (([32] ++ ((cutT l 9 i (i + 3)).text)) ++ [32])))
   rotate_left 1
   · refine WC_true rfl (WC_exit (At_thenX (At_blockX (At_then (WC_region (Bo (Iv ((0 : Nat) : Int)) (Iv 1) (Iv ((1 : Nat) : Int)) eqg_int rfl (Mv (Iv ((1 : Nat) : Int)) (WL_nil ?_))))))))
     exact At_againF 1 (⟨by omega, hS.trans (signL_no hsh (by simp only [Bool.not_eq_true, Bool.not_eq_false, Bool.not_eq_eq_eq_not, Bool.not_true, Bool.not_false] at hb6; rw [hb5]; rw [hb6]; rfl))⟩) ⟨rfl, rfl, rfl, rfl, trivial⟩ (En Z4 (En Z4 (En Z2 (En Z2 (En Z2 (En Z0 D1)))))) (show 3 - 1 < 3 - 0 by omega)
   refine Fz (Fa b4 0 fa47_1 (Lo b4 1 (.string (bs (cutT l 9 i (i + 3)).text)) isAgg9 Z1 rfl (Nt (WC_block (Sr (Bo (.string (bs (cutT l 9 i (i + 3)).text)) (Tx [123]) (.bool (((cutT l 9 i (i + 3)).text) == [123])) eqg_str (bin_str_eql _ _) (Av (.bool (((cutT l 9 i (i + 3)).text) == [123])) (Nt ?_))))))))
   cases hb7 : (((cutT l 9 i (i + 3)).text) == [123])
   rotate_left 1
   · refine Tr (Mv (ptr sb) (Mv (ptr sb) (Nc sb 0 (Fa sb 0 fa134_2 (Lo sb 2 (slV so) isAgg132 Z2 rfl (Bl 4 [.bool false] (bs132_1 _ rfl ) fun b9 => WL_ef (ef_pushB (op := op) (b := false) rfl rfl (.cons (.succ (.succ (.succ Z4))) (K1 Z0)) (by have := hop; first | omega | (simp at this ⊢; omega))) fun so10 => Nc sb 0 (Fa sb 0 fa134_2 (S1 sb 2 (slV so10) sizeOf132 Z3 (.skip (.skip (.put .done))) (WL_nil (At_blockN (At_then (Sr (WL_rd (rd_loadN (b := b4) (o := 0) (vs := [Iv ((cutT l 9 i (i + 3)).kind), .string (bs (cutT l 9 i (i + 3)).text), Iv ((cutT l 9 i (i + 3)).pos), Iv ((cutT l 9 i (i + 3)).en)]) isAgg47 sizeOf47 rfl Z3 rfl rfl) (Sa b1 0 [Iv ((cutT l 9 i (i + 3)).kind), .string (bs (cutT l 9 i (i + 3)).text), Iv ((cutT l 9 i (i + 3)).pos), Iv ((cutT l 9 i (i + 3)).en)] sizeOf47 (.succ (.succ Z4)) (.put (.put (.put (.put .done)))) (Nr (At_blockR (At_thenR (At_loopR (At_blockR (At_thenR ?_))))))))))))))))))))
     have eT : (signL l i signs3) = cutT l 9 i (i + 3) := hS.trans (signL_yes hsh (by simp only [Bool.not_eq_true, Bool.not_eq_false, Bool.not_eq_eq_eq_not, Bool.not_true, Bool.not_false] at hb6; rw [hb5]; rw [hb6]; rfl))
     have eO : opS (signL l i signs3).text op = false :: op := by rw [eT]; unfold opS; rw [hb7]; rfl
     refine At_retC results113 isAgg47 sizeOf47 rfl Z0 rfl (fun w q => ⟨so10, ?_, ?_⟩)
     · rw [eT]; try rfl
     rw [eO]; exact q.mono (En Z1 (En Z4 (En Z1 (En Z1 D3))))
   refine WC_false rfl (Sr (Bo (.string (bs (cutT l 9 i (i + 3)).text)) (Tx [125]) (.bool (((cutT l 9 i (i + 3)).text) == [125])) eqg_str (bin_str_eql _ _) (Av (.bool (((cutT l 9 i (i + 3)).text) == [125])) (Nt ?_))))
   cases hb8 : (((cutT l 9 i (i + 3)).text) == [125])
   · refine WC_false rfl (WC_skip (At_blockN (At_then (Sr (WL_rd (rd_loadN (b := b4) (o := 0) (vs := [Iv ((cutT l 9 i (i + 3)).kind), .string (bs (cutT l 9 i (i + 3)).text), Iv ((cutT l 9 i (i + 3)).pos), Iv ((cutT l 9 i (i + 3)).en)]) isAgg47 sizeOf47 rfl Z1 rfl rfl) (Sa b1 0 [Iv ((cutT l 9 i (i + 3)).kind), .string (bs (cutT l 9 i (i + 3)).text), Iv ((cutT l 9 i (i + 3)).pos), Iv ((cutT l 9 i (i + 3)).en)] sizeOf47 (.succ Z4) (.put (.put (.put (.put .done)))) (Nr (At_blockR (At_thenR (At_loopR (At_blockR (At_thenR ?_))))))))))))
     have eT : (signL l i signs3) = cutT l 9 i (i + 3) := hS.trans (signL_yes hsh (by simp only [Bool.not_eq_true, Bool.not_eq_false, Bool.not_eq_eq_eq_not, Bool.not_true, Bool.not_false] at hb6; rw [hb5]; rw [hb6]; rfl))
     have eO : opS (signL l i signs3).text op = op := by rw [eT]; unfold opS; rw [hb7, hb8]; rfl
     refine At_retC results113 isAgg47 sizeOf47 rfl Z0 rfl (fun w q => ⟨so, ?_, ?_⟩)
     · rw [eT]; try rfl
     rw [eO]; exact q.mono (En Z3 (En Z3 (En Z4 (En Z1 D3))))
   refine WC_true rfl (WC_draw [13, 14, 15] [Cl sb 134 [Sl bb l.length cap, Iv i, slV so], OB so op] mixed (Dt 0 rfl rfl (Q0 (K2 Z2 (.succ Z4))) (Rm (ptr sb) rfl) (Dt 1 rfl rfl (Q0 (K2 Z2 (.succ Z4))) (Rm (ptr sb) rfl) (Dt 2 rfl rfl (Q0 (K2 Z2 (.succ Z4))) (Rn sb 0 rfl) (Dt 3 rfl rfl (Q0 (K2 Z2 (.succ Z4))) (Rf sb 0 fa134_2 rfl) (Dt 4 rfl rfl (Q0 (K2 Z2 (.succ Z4))) (Rl sb 2 (slV so) isAgg132 rfl Z0 rfl) (Dt 5 rfl rfl (Q0 (K2 Z2 (.succ Z4))) (Rm (ptr sb) rfl) (Dt 6 rfl rfl (Q0 (K2 Z2 (.succ Z4))) (Rn sb 0 rfl) (Dt 7 rfl rfl (Q0 (K2 Z2 (.succ Z4))) (Rf sb 0 fa134_2 rfl) (Dt 8 rfl rfl (Q0 (K2 Z2 (.succ Z4))) (Rl sb 2 (slV so) isAgg132 rfl Z0 rfl) (Dt 9 rfl rfl (Q0 (K2 Z2 (.succ Z4))) (rd_lenOB (op := op) runUnderlying132 rfl Z1) (Dt 10 rfl rfl (Q0 (K2 Z2 (.succ Z4))) (Rb (Iv op.length) (Iv 1) (Iv (((op.length : Nat) : Int) - 1)) rfl rfl eqg_int (bin_sub (by omega) (by omega))) (Dt 11 rfl rfl (Q0 (K2 Z2 (.succ Z4))) (rd_maxI (a := 0) (b := ((op.length : Nat) : Int) - 1) (c := ((op.length - 1 : Nat) : Int)) rfl rfl (by omega)) (Dt 12 rfl rfl (Q0 (K2 Z2 (.succ Z4))) (rd_popB (so := so) (op := op) runUnderlying132 sizeOf4 rfl rfl rfl Z1) (WD_rd 13 (by kernel_rfl) rfl rfl rfl (Rn sb 0 rfl) (late_vac (i := 13) (by kernel_rfl) (by decide)) (WD_rd 14 (by kernel_rfl) rfl rfl rfl (Rf sb 0 fa134_2 rfl) (late_vac (i := 14) (by kernel_rfl) (by decide)) (WD_ef0 15 (by kernel_rfl) rfl rfl rfl (ef_store (b := sb) (o := 2) (v := slV (so.1, op.length - 1, so.2.2)) (vs := [slV (so.1, op.length - 1, so.2.2)]) sizeOf132 rfl rfl rfl rfl rfl Z2 (.skip (.skip (.put .done)))) (late_vac (i := 15) (by kernel_rfl) (by decide)) ?_)))))))))))))))))
   refine WD_done (by kernel_rfl) ?_ _
   refine At_blockN (At_then (Sr (WL_rd (rd_loadN (b := b4) (o := 0) (vs := [Iv ((cutT l 9 i (i + 3)).kind), .string (bs (cutT l 9 i (i + 3)).text), Iv ((cutT l 9 i (i + 3)).pos), Iv ((cutT l 9 i (i + 3)).en)]) isAgg47 sizeOf47 rfl Z2 rfl rfl) (Sa b1 0 [Iv ((cutT l 9 i (i + 3)).kind), .string (bs (cutT l 9 i (i + 3)).text), Iv ((cutT l 9 i (i + 3)).pos), Iv ((cutT l 9 i (i + 3)).en)] sizeOf47 (.succ Z4) (.put (.put (.put (.put .done)))) (Nr (At_blockR (At_thenR (At_loopR (At_blockR (At_thenR ?_))))))))))
   have eT : (signL l i signs3) = cutT l 9 i (i + 3) := hS.trans (signL_yes hsh (by simp only [Bool.not_eq_true, Bool.not_eq_false, Bool.not_eq_eq_eq_not, Bool.not_true, Bool.not_false] at hb6; rw [hb5]; rw [hb6]; rfl))
   refine At.ent (Ent.trans (Sel.ent (.succ (.succ Z4))) ob_pop) ?_
   have eO : opS (signL l i signs3).text op = op.tail := by rw [eT]; unfold opS; rw [hb7, hb8]; rfl
   refine At_retC results113 isAgg47 sizeOf47 rfl Z1 rfl (fun w q => ⟨(so.1, op.length - 1, so.2.2), ?_, ?_⟩)
   · rw [eT]; try rfl
   rw [eO]; exact q.mono (En Z2 (En Z4 (En Z0 (En Z1 D3))))
 · have hS : signL l i signs3 = signL l i ((2, [32, 61, 62, 32, 43, 61, 32, 45, 61, 32, 42, 61, 32, 37, 61, 32, 60, 61, 32, 62, 61, 32, 60, 60, 32, 62, 62, 32, 38, 38, 32, 124, 124, 32]) :: signs3.drop 2) := hS
   refine Sr (Bo (Iv ((1 : Nat) : Int)) (Iv 3) (.bool true) eqg_int rfl (Nt (WC_seq (WC_true rfl (WC_skip (At_then (WC_seq (WC_block (Sr (Mv (Iv ((1 : Nat) : Int)) (WL_rd (rd_indexArr (j := 1) (v := Tx [32, 61, 62, 32, 43, 61, 32, 45, 61, 32, 42, 61, 32, 37, 61, 32, 60, 61, 32, 62, 61, 32, 60, 60, 32, 62, 62, 32, 38, 38, 32, 124, 124, 32]) runUnderlying167 sizeOf9 isAgg9 rfl rfl rfl (by decide) rfl) (Av (Iv ((1 : Nat) : Int)) (Av (Tx [32, 61, 62, 32, 43, 61, 32, 45, 61, 32, 42, 61, 32, 37, 61, 32, 60, 61, 32, 62, 61, 32, 60, 60, 32, 62, 62, 32, 38, 38, 32, 124, 124, 32]) (Ny (Mv (Iv ((1 : Nat) : Int)) (Bo (Iv 3) (Iv ((1 : Nat) : Int)) (Iv ((2 : Nat) : Int)) eqg_int rfl (Av (Iv ((2 : Nat) : Int)) (Nt (WC_seq (WC_seq (WC_draw [] [Cl sb 134 [Sl bb l.length cap, Iv i, slV so]] mixed (Dt 0 rfl rfl (Q0 (K1 Z2)) (Rm (ptr sb) rfl) (Dt 1 rfl rfl (Q0 (K1 Z2)) (Rn sb 0 rfl) (Dt 2 rfl rfl (Q0 (K1 Z2)) (Rf sb 0 fa134_0 rfl) (Dt 3 rfl rfl (Q0 (K1 Z2)) (Rl sb 0 (Sl bb l.length cap) isAgg22 rfl Z0 rfl) (Dt 4 rfl rfl (Q0 (K1 Z2)) (rd_lenS (a := some ⟨bb, 0, none⟩) (k := l.length) runUnderlying22 rfl) (Dt 5 rfl rfl (Q0 (K1 Z2)) (Rm (ptr sb) rfl) (Dt 6 rfl rfl (Q0 (K1 Z2)) (Rn sb 0 rfl) (Dt 7 rfl rfl (Q0 (K1 Z2)) (Rf sb 0 fa134_1 rfl) (Dt 8 rfl rfl (Q0 (K1 Z2)) (Rl sb 1 (Iv i) isAgg3 rfl Z0 rfl) (Dt 9 rfl rfl (Q0 (K1 Z2)) (Rb (Iv l.length) (Iv i) (Iv ((l.length - i : Nat) : Int)) rfl rfl eqg_int (bin_subN (by omega) rfl (by omega))) (Dt 10 rfl rfl (Q0 (K1 Z2)) (Rm (Iv ((2 : Nat) : Int)) rfl) (Dt 11 rfl rfl (Q0 (K1 Z2)) (Rb (Iv ((l.length - i : Nat) : Int)) (Iv ((2 : Nat) : Int)) (.bool (decide (((l.length - i : Nat) : Int) < ((2 : Nat) : Int)))) rfl rfl eqg_int (binOp_lss _ _ _ _)) ?_)))))))))))))))))))))))))))))))))
   refine WD_done (by kernel_rfl) ?_ _
   refine At_then ?_
   cases hb11 : (decide (((l.length - i : Nat) : Int) < ((2 : Nat) : Int)))
   rotate_left 1
   · have hsh : l.length - i < 2 := by have h9 := hb11; simp only [decide_eq_true_eq] at h9; omega
     refine WC_true rfl (WC_exit (At_thenX (At_blockX (At_then (WC_region (Bo (Iv ((1 : Nat) : Int)) (Iv 1) (Iv ((2 : Nat) : Int)) eqg_int rfl (Mv (Iv ((2 : Nat) : Int)) (WL_nil ?_))))))))
     exact At_againF 2 (⟨by omega, hS.trans (signL_short hsh)⟩) ⟨rfl, rfl, rfl, rfl, trivial⟩ (En Z0 (En Z0 (E4 Z0 Z0 Z0 Z0))) (show 3 - 2 < 3 - 1 by omega)
   have hsh : ¬ l.length - i < 2 := by have h9 := hb11; simp only [decide_eq_false_iff_not] at h9; omega
   refine Fx (Mv (ptr sb) (Mv (ptr sb) (Nc sb 0 (Fa sb 0 fa134_1 (Lo sb 1 (Iv i) isAgg3 Z2 rfl (Mv (Iv ((2 : Nat) : Int)) (Bo (Iv i) (Iv ((2 : Nat) : Int)) (Iv ((i + 2 : Nat) : Int)) eqg_int (bin_addN rfl (by omega)) (WL_callQ (Δ := [Cl sb 134 [Sl bb l.length cap, Iv i, slV so], Cl bb 5 (l.map u8v ++ sp)]) (v := .agg #[Iv ((cutT l 9 i (i + 2)).kind), .string (bs (cutT l 9 i (i + 2)).text), Iv ((cutT l 9 i (i + 2)).pos), Iv ((cutT l 9 i (i + 2)).en)]) call164 rfl (c_cut (l := l) (i := i) (j := (i + 2)) hcap (by omega) (by omega)) (K2 Z2 Z2) (WL_ef (ef_alloc (l := [Iv 0, Tx [], Iv 0, Iv 0]) zeroValue47 rfl) fun b12 => Sa b12 0 [Iv ((cutT l 9 i (i + 2)).kind), .string (bs (cutT l 9 i (i + 2)).text), Iv ((cutT l 9 i (i + 2)).pos), Iv ((cutT l 9 i (i + 2)).en)] sizeOf47 Z0 (.put (.put (.put (.put .done)))) (Nz (Fa b12 0 fa47_1 (Lo b12 1 (.string (bs (cutT l 9 i (i + 2)).text)) isAgg9 Z0 rfl (WL_callQ (Δ := []) (v := .bool (((cutT l 9 i (i + 2)).text).any blankB)) call167 rfl (c_containsAny4 (s := ((cutT l 9 i (i + 2)).text)) (by have := cut_text_len l 9 i (i + 2); omega)) (.nil) (Mv (.bool (((cutT l 9 i (i + 2)).text).any blankB)) ?_))))))))))))))
   cases hb13 : (((cutT l 9 i (i + 2)).text).any blankB)
   rotate_left 1
   · refine Pa true 39 (Pa true 39 (Pa true 39 (Pa true 39 (Pa true 39 (Pa true 39 (Pa true 39 (Pk true (Nt (WC_true rfl (WC_exit (At_thenX (At_blockX (At_then (WC_region (Bo (Iv ((1 : Nat) : Int)) (Iv 1) (Iv ((2 : Nat) : Int)) eqg_int rfl (Mv (Iv ((2 : Nat) : Int)) (WL_nil ?_)))))))))))))))))
     exact At_againF 2 (⟨by omega, hS.trans (signL_no hsh (by rw [hb13]; rfl))⟩) ⟨rfl, rfl, rfl, rfl, trivial⟩ (En Z3 (En Z3 (En Z1 (En Z1 (En Z1 (En Z1 D1)))))) (show 3 - 2 < 3 - 1 by omega)
   refine Ta false 39 (Mv (Tx [32, 61, 62, 32, 43, 61, 32, 45, 61, 32, 42, 61, 32, 37, 61, 32, 60, 61, 32, 62, 61, 32, 60, 60, 32, 62, 62, 32, 38, 38, 32, 124, 124, 32]) (Ta false 39 (Fa b12 0 fa47_1 (Ta false 39 (Lo b12 1 (.string (bs (cutT l 9 i (i + 2)).text)) isAgg9 Z0 rfl (Ta false 39 (WL_rd (rd_addBs (a := [32]) (b := ((cutT l 9 i (i + 2)).text)) rfl rfl (by have := cut_text_len l 9 i (i + 2); simp only [List.length_append, List.length_cons, List.length_nil]; omega)) (Ta false 39 (WL_rd (rd_addBs (a := ([32] ++ ((cutT l 9 i (i + 2)).text))) (b := [32]) rfl rfl (by have := cut_text_len l 9 i (i + 2); simp only [List.length_append, List.length_cons, List.length_nil]; omega)) (Ta false 39 (WL_callQ (Δ := [(GMx gx)]) (v := .bool (Lib.contains [32, 61, 62, 32, 43, 61, 32, 45, 61, 32, 42, 61, 32, 37, 61, 32, 60, 61, 32, 62, 61, 32, 60, 60, 32, 62, 62, 32, 38, 38, 32, 124, 124, 32] (([32] ++ ((cutT l 9 i (i + 2)).text)) ++ [32]))) call168 rfl (c_contains [32, 61, 62, 32, 43, 61, 32, 45, 61, 32, 42, 61, 32, 37, 61, 32, 60, 61, 32, 62, 61, 32, 60, 60, 32, 62, 62, 32, 38, 38, 32, 124, 124, 32] (([32] ++ ((cutT l 9 i (i + 2)).text)) ++ [32]) (by decide)) (K1 (.succ (.succ Z4))) (Ta false 39 (WL_rd (rd_not (b := Lib.contains [32, 61, 62, 32, 43, 61, 32, 45, 61, 32, 42, 61, 32, 37, 61, 32, 60, 61, 32, 62, 61, 32, 60, 60, 32, 62, 62, 32, 38, 38, 32, 124, 124, 32] (([32] ++ ((cutT l 9 i (i + 2)).text)) ++ [32])) rfl) (Pk false (Nt ?_)))))))))))))))
   cases hb14 : (!(Lib.contains [32, 61, 62, 32, 43, 61, 32, 45, 61, 32, 42, 61, 32, 37, 61, 32, 60, 61, 32, 62, 61, 32, 60, 60, 32, 62, 62, 32, 38, 38, 32, 124, 124, 32] (([32] ++ ((cutT l 9 i (i + 2)).text)) ++ [32])))
   rotate_left 1
   · refine WC_true rfl (WC_exit (At_thenX (At_blockX (At_then (WC_region (Bo (Iv ((1 : Nat) : Int)) (Iv 1) (Iv ((2 : Nat) : Int)) eqg_int rfl (Mv (Iv ((2 : Nat) : Int)) (WL_nil ?_))))))))
     exact At_againF 2 (⟨by omega, hS.trans (signL_no hsh (by simp only [Bool.not_eq_true, Bool.not_eq_false, Bool.not_eq_eq_eq_not, Bool.not_true, Bool.not_false] at hb14; rw [hb13]; rw [hb14]; rfl))⟩) ⟨rfl, rfl, rfl, rfl, trivial⟩ (En Z4 (En Z4 (En Z2 (En Z2 (En Z2 (En Z0 D1)))))) (show 3 - 2 < 3 - 1 by omega)
   refine Fz (Fa b12 0 fa47_1 (Lo b12 1 (.string (bs (cutT l 9 i (i + 2)).text)) isAgg9 Z1 rfl (Nt (WC_block (Sr (Bo (.string (bs (cutT l 9 i (i + 2)).text)) (Tx [123]) (.bool (((cutT l 9 i (i + 2)).text) == [123])) eqg_str (bin_str_eql _ _) (Av (.bool (((cutT l 9 i (i + 2)).text) == [123])) (Nt ?_))))))))
   cases hb15 : (((cutT l 9 i (i + 2)).text) == [123])
   rotate_left 1
   · refine Tr (Mv (ptr sb) (Mv (ptr sb) (Nc sb 0 (Fa sb 0 fa134_2 (Lo sb 2 (slV so) isAgg132 Z2 rfl (Bl 4 [.bool false] (bs132_1 _ rfl ) fun b17 => WL_ef (ef_pushB (op := op) (b := false) rfl rfl (.cons (.succ (.succ (.succ Z4))) (K1 Z0)) (by have := hop; first | omega | (simp at this ⊢; omega))) fun so18 => Nc sb 0 (Fa sb 0 fa134_2 (S1 sb 2 (slV so18) sizeOf132 Z3 (.skip (.skip (.put .done))) (WL_nil (At_blockN (At_then (Sr (WL_rd (rd_loadN (b := b12) (o := 0) (vs := [Iv ((cutT l 9 i (i + 2)).kind), .string (bs (cutT l 9 i (i + 2)).text), Iv ((cutT l 9 i (i + 2)).pos), Iv ((cutT l 9 i (i + 2)).en)]) isAgg47 sizeOf47 rfl Z3 rfl rfl) (Sa b1 0 [Iv ((cutT l 9 i (i + 2)).kind), .string (bs (cutT l 9 i (i + 2)).text), Iv ((cutT l 9 i (i + 2)).pos), Iv ((cutT l 9 i (i + 2)).en)] sizeOf47 (.succ (.succ Z4)) (.put (.put (.put (.put .done)))) (Nr (At_blockR (At_thenR (At_loopR (At_blockR (At_thenR ?_))))))))))))))))))))
     have eT : (signL l i signs3) = cutT l 9 i (i + 2) := hS.trans (signL_yes hsh (by simp only [Bool.not_eq_true, Bool.not_eq_false, Bool.not_eq_eq_eq_not, Bool.not_true, Bool.not_false] at hb14; rw [hb13]; rw [hb14]; rfl))
     have eO : opS (signL l i signs3).text op = false :: op := by rw [eT]; unfold opS; rw [hb15]; rfl
     refine At_retC results113 isAgg47 sizeOf47 rfl Z0 rfl (fun w q => ⟨so18, ?_, ?_⟩)
     · rw [eT]; try rfl
     rw [eO]; exact q.mono (En Z1 (En Z4 (En Z1 (En Z1 D3))))
   refine WC_false rfl (Sr (Bo (.string (bs (cutT l 9 i (i + 2)).text)) (Tx [125]) (.bool (((cutT l 9 i (i + 2)).text) == [125])) eqg_str (bin_str_eql _ _) (Av (.bool (((cutT l 9 i (i + 2)).text) == [125])) (Nt ?_))))
   cases hb16 : (((cutT l 9 i (i + 2)).text) == [125])
   · refine WC_false rfl (WC_skip (At_blockN (At_then (Sr (WL_rd (rd_loadN (b := b12) (o := 0) (vs := [Iv ((cutT l 9 i (i + 2)).kind), .string (bs (cutT l 9 i (i + 2)).text), Iv ((cutT l 9 i (i + 2)).pos), Iv ((cutT l 9 i (i + 2)).en)]) isAgg47 sizeOf47 rfl Z1 rfl rfl) (Sa b1 0 [Iv ((cutT l 9 i (i + 2)).kind), .string (bs (cutT l 9 i (i + 2)).text), Iv ((cutT l 9 i (i + 2)).pos), Iv ((cutT l 9 i (i + 2)).en)] sizeOf47 (.succ Z4) (.put (.put (.put (.put .done)))) (Nr (At_blockR (At_thenR (At_loopR (At_blockR (At_thenR ?_))))))))))))
     have eT : (signL l i signs3) = cutT l 9 i (i + 2) := hS.trans (signL_yes hsh (by simp only [Bool.not_eq_true, Bool.not_eq_false, Bool.not_eq_eq_eq_not, Bool.not_true, Bool.not_false] at hb14; rw [hb13]; rw [hb14]; rfl))
     have eO : opS (signL l i signs3).text op = op := by rw [eT]; unfold opS; rw [hb15, hb16]; rfl
     refine At_retC results113 isAgg47 sizeOf47 rfl Z0 rfl (fun w q => ⟨so, ?_, ?_⟩)
     · rw [eT]; try rfl
     rw [eO]; exact q.mono (En Z3 (En Z3 (En Z4 (En Z1 D3))))
   refine WC_true rfl (WC_draw [13, 14, 15] [Cl sb 134 [Sl bb l.length cap, Iv i, slV so], OB so op] mixed (Dt 0 rfl rfl (Q0 (K2 Z2 (.succ Z4))) (Rm (ptr sb) rfl) (Dt 1 rfl rfl (Q0 (K2 Z2 (.succ Z4))) (Rm (ptr sb) rfl) (Dt 2 rfl rfl (Q0 (K2 Z2 (.succ Z4))) (Rn sb 0 rfl) (Dt 3 rfl rfl (Q0 (K2 Z2 (.succ Z4))) (Rf sb 0 fa134_2 rfl) (Dt 4 rfl rfl (Q0 (K2 Z2 (.succ Z4))) (Rl sb 2 (slV so) isAgg132 rfl Z0 rfl) (Dt 5 rfl rfl (Q0 (K2 Z2 (.succ Z4))) (Rm (ptr sb) rfl) (Dt 6 rfl rfl (Q0 (K2 Z2 (.succ Z4))) (Rn sb 0 rfl) (Dt 7 rfl rfl (Q0 (K2 Z2 (.succ Z4))) (Rf sb 0 fa134_2 rfl) (Dt 8 rfl rfl (Q0 (K2 Z2 (.succ Z4))) (Rl sb 2 (slV so) isAgg132 rfl Z0 rfl) (Dt 9 rfl rfl (Q0 (K2 Z2 (.succ Z4))) (rd_lenOB (op := op) runUnderlying132 rfl Z1) (Dt 10 rfl rfl (Q0 (K2 Z2 (.succ Z4))) (Rb (Iv op.length) (Iv 1) (Iv (((op.length : Nat) : Int) - 1)) rfl rfl eqg_int (bin_sub (by omega) (by omega))) (Dt 11 rfl rfl (Q0 (K2 Z2 (.succ Z4))) (rd_maxI (a := 0) (b := ((op.length : Nat) : Int) - 1) (c := ((op.length - 1 : Nat) : Int)) rfl rfl (by omega)) (Dt 12 rfl rfl (Q0 (K2 Z2 (.succ Z4))) (rd_popB (so := so) (op := op) runUnderlying132 sizeOf4 rfl rfl rfl Z1) (WD_rd 13 (by kernel_rfl) rfl rfl rfl (Rn sb 0 rfl) (late_vac (i := 13) (by kernel_rfl) (by decide)) (WD_rd 14 (by kernel_rfl) rfl rfl rfl (Rf sb 0 fa134_2 rfl) (late_vac (i := 14) (by kernel_rfl) (by decide)) (WD_ef0 15 (by kernel_rfl) rfl rfl rfl (ef_store (b := sb) (o := 2) (v := slV (so.1, op.length - 1, so.2.2)) (vs := [slV (so.1, op.length - 1, so.2.2)]) sizeOf132 rfl rfl rfl rfl rfl Z2 (.skip (.skip (.put .done)))) (late_vac (i := 15) (by kernel_rfl) (by decide)) ?_)))))))))))))))))
   refine WD_done (by kernel_rfl) ?_ _
   refine At_blockN (At_then (Sr (WL_rd (rd_loadN (b := b12) (o := 0) (vs := [Iv ((cutT l 9 i (i + 2)).kind), .string (bs (cutT l 9 i (i + 2)).text), Iv ((cutT l 9 i (i + 2)).pos), Iv ((cutT l 9 i (i + 2)).en)]) isAgg47 sizeOf47 rfl Z2 rfl rfl) (Sa b1 0 [Iv ((cutT l 9 i (i + 2)).kind), .string (bs (cutT l 9 i (i + 2)).text), Iv ((cutT l 9 i (i + 2)).pos), Iv ((cutT l 9 i (i + 2)).en)] sizeOf47 (.succ Z4) (.put (.put (.put (.put .done)))) (Nr (At_blockR (At_thenR (At_loopR (At_blockR (At_thenR ?_))))))))))
   have eT : (signL l i signs3) = cutT l 9 i (i + 2) := hS.trans (signL_yes hsh (by simp only [Bool.not_eq_true, Bool.not_eq_false, Bool.not_eq_eq_eq_not, Bool.not_true, Bool.not_false] at hb14; rw [hb13]; rw [hb14]; rfl))
   refine At.ent (Ent.trans (Sel.ent (.succ (.succ Z4))) ob_pop) ?_
   have eO : opS (signL l i signs3).text op = op.tail := by rw [eT]; unfold opS; rw [hb15, hb16]; rfl
   refine At_retC results113 isAgg47 sizeOf47 rfl Z1 rfl (fun w q => ⟨(so.1, op.length - 1, so.2.2), ?_, ?_⟩)
   · rw [eT]; try rfl
   rw [eO]; exact q.mono (En Z2 (En Z4 (En Z0 (En Z1 D3))))
 · have hS : signL l i signs3 = signL l i ((1, [32, 123, 32, 125, 32, 40, 32, 41, 32, 91, 32, 93, 32, 46, 32, 44, 32, 59, 32, 58, 32, 63, 32, 61, 32, 43, 32, 45, 32, 42, 32, 37, 32, 33, 32, 126, 32, 60, 32, 62, 32, 38, 32, 124, 32, 94, 32]) :: signs3.drop 3) := hS
   refine Sr (Bo (Iv ((2 : Nat) : Int)) (Iv 3) (.bool true) eqg_int rfl (Nt (WC_seq (WC_true rfl (WC_skip (At_then (WC_seq (WC_block (Sr (Mv (Iv ((2 : Nat) : Int)) (WL_rd (rd_indexArr (j := 2) (v := Tx [32, 123, 32, 125, 32, 40, 32, 41, 32, 91, 32, 93, 32, 46, 32, 44, 32, 59, 32, 58, 32, 63, 32, 61, 32, 43, 32, 45, 32, 42, 32, 37, 32, 33, 32, 126, 32, 60, 32, 62, 32, 38, 32, 124, 32, 94, 32]) runUnderlying167 sizeOf9 isAgg9 rfl rfl rfl (by decide) rfl) (Av (Iv ((2 : Nat) : Int)) (Av (Tx [32, 123, 32, 125, 32, 40, 32, 41, 32, 91, 32, 93, 32, 46, 32, 44, 32, 59, 32, 58, 32, 63, 32, 61, 32, 43, 32, 45, 32, 42, 32, 37, 32, 33, 32, 126, 32, 60, 32, 62, 32, 38, 32, 124, 32, 94, 32]) (Ny (Mv (Iv ((2 : Nat) : Int)) (Bo (Iv 3) (Iv ((2 : Nat) : Int)) (Iv ((1 : Nat) : Int)) eqg_int rfl (Av (Iv ((1 : Nat) : Int)) (Nt (WC_seq (WC_seq (WC_draw [] [Cl sb 134 [Sl bb l.length cap, Iv i, slV so]] mixed (Dt 0 rfl rfl (Q0 (K1 Z2)) (Rm (ptr sb) rfl) (Dt 1 rfl rfl (Q0 (K1 Z2)) (Rn sb 0 rfl) (Dt 2 rfl rfl (Q0 (K1 Z2)) (Rf sb 0 fa134_0 rfl) (Dt 3 rfl rfl (Q0 (K1 Z2)) (Rl sb 0 (Sl bb l.length cap) isAgg22 rfl Z0 rfl) (Dt 4 rfl rfl (Q0 (K1 Z2)) (rd_lenS (a := some ⟨bb, 0, none⟩) (k := l.length) runUnderlying22 rfl) (Dt 5 rfl rfl (Q0 (K1 Z2)) (Rm (ptr sb) rfl) (Dt 6 rfl rfl (Q0 (K1 Z2)) (Rn sb 0 rfl) (Dt 7 rfl rfl (Q0 (K1 Z2)) (Rf sb 0 fa134_1 rfl) (Dt 8 rfl rfl (Q0 (K1 Z2)) (Rl sb 1 (Iv i) isAgg3 rfl Z0 rfl) (Dt 9 rfl rfl (Q0 (K1 Z2)) (Rb (Iv l.length) (Iv i) (Iv ((l.length - i : Nat) : Int)) rfl rfl eqg_int (bin_subN (by omega) rfl (by omega))) (Dt 10 rfl rfl (Q0 (K1 Z2)) (Rm (Iv ((1 : Nat) : Int)) rfl) (Dt 11 rfl rfl (Q0 (K1 Z2)) (Rb (Iv ((l.length - i : Nat) : Int)) (Iv ((1 : Nat) : Int)) (.bool (decide (((l.length - i : Nat) : Int) < ((1 : Nat) : Int)))) rfl rfl eqg_int (binOp_lss _ _ _ _)) ?_)))))))))))))))))))))))))))))))))
   refine WD_done (by kernel_rfl) ?_ _
   refine At_then ?_
   cases hb19 : (decide (((l.length - i : Nat) : Int) < ((1 : Nat) : Int)))
   rotate_left 1
   · have hsh : l.length - i < 1 := by have h9 := hb19; simp only [decide_eq_true_eq] at h9; omega
     refine WC_true rfl (WC_exit (At_thenX (At_blockX (At_then (WC_region (Bo (Iv ((2 : Nat) : Int)) (Iv 1) (Iv ((3 : Nat) : Int)) eqg_int rfl (Mv (Iv ((3 : Nat) : Int)) (WL_nil ?_))))))))
     exact At_againF 3 (⟨by omega, hS.trans (signL_short hsh)⟩) ⟨rfl, rfl, rfl, rfl, trivial⟩ (En Z0 (En Z0 (E4 Z0 Z0 Z0 Z0))) (show 3 - 3 < 3 - 2 by omega)
   have hsh : ¬ l.length - i < 1 := by have h9 := hb19; simp only [decide_eq_false_iff_not] at h9; omega
   refine Fx (Mv (ptr sb) (Mv (ptr sb) (Nc sb 0 (Fa sb 0 fa134_1 (Lo sb 1 (Iv i) isAgg3 Z2 rfl (Mv (Iv ((1 : Nat) : Int)) (Bo (Iv i) (Iv ((1 : Nat) : Int)) (Iv ((i + 1 : Nat) : Int)) eqg_int (bin_addN rfl (by omega)) (WL_callQ (Δ := [Cl sb 134 [Sl bb l.length cap, Iv i, slV so], Cl bb 5 (l.map u8v ++ sp)]) (v := .agg #[Iv ((cutT l 9 i (i + 1)).kind), .string (bs (cutT l 9 i (i + 1)).text), Iv ((cutT l 9 i (i + 1)).pos), Iv ((cutT l 9 i (i + 1)).en)]) call164 rfl (c_cut (l := l) (i := i) (j := (i + 1)) hcap (by omega) (by omega)) (K2 Z2 Z2) (WL_ef (ef_alloc (l := [Iv 0, Tx [], Iv 0, Iv 0]) zeroValue47 rfl) fun b20 => Sa b20 0 [Iv ((cutT l 9 i (i + 1)).kind), .string (bs (cutT l 9 i (i + 1)).text), Iv ((cutT l 9 i (i + 1)).pos), Iv ((cutT l 9 i (i + 1)).en)] sizeOf47 Z0 (.put (.put (.put (.put .done)))) (Nz (Fa b20 0 fa47_1 (Lo b20 1 (.string (bs (cutT l 9 i (i + 1)).text)) isAgg9 Z0 rfl (WL_callQ (Δ := []) (v := .bool (((cutT l 9 i (i + 1)).text).any blankB)) call167 rfl (c_containsAny4 (s := ((cutT l 9 i (i + 1)).text)) (by have := cut_text_len l 9 i (i + 1); omega)) (.nil) (Mv (.bool (((cutT l 9 i (i + 1)).text).any blankB)) ?_))))))))))))))
   cases hb21 : (((cutT l 9 i (i + 1)).text).any blankB)
   rotate_left 1
   · refine Pa true 39 (Pa true 39 (Pa true 39 (Pa true 39 (Pa true 39 (Pa true 39 (Pa true 39 (Pk true (Nt (WC_true rfl (WC_exit (At_thenX (At_blockX (At_then (WC_region (Bo (Iv ((2 : Nat) : Int)) (Iv 1) (Iv ((3 : Nat) : Int)) eqg_int rfl (Mv (Iv ((3 : Nat) : Int)) (WL_nil ?_)))))))))))))))))
     exact At_againF 3 (⟨by omega, hS.trans (signL_no hsh (by rw [hb21]; rfl))⟩) ⟨rfl, rfl, rfl, rfl, trivial⟩ (En Z3 (En Z3 (En Z1 (En Z1 (En Z1 (En Z1 D1)))))) (show 3 - 3 < 3 - 2 by omega)
   refine Ta false 39 (Mv (Tx [32, 123, 32, 125, 32, 40, 32, 41, 32, 91, 32, 93, 32, 46, 32, 44, 32, 59, 32, 58, 32, 63, 32, 61, 32, 43, 32, 45, 32, 42, 32, 37, 32, 33, 32, 126, 32, 60, 32, 62, 32, 38, 32, 124, 32, 94, 32]) (Ta false 39 (Fa b20 0 fa47_1 (Ta false 39 (Lo b20 1 (.string (bs (cutT l 9 i (i + 1)).text)) isAgg9 Z0 rfl (Ta false 39 (WL_rd (rd_addBs (a := [32]) (b := ((cutT l 9 i (i + 1)).text)) rfl rfl (by have := cut_text_len l 9 i (i + 1); simp only [List.length_append, List.length_cons, List.length_nil]; omega)) (Ta false 39 (WL_rd (rd_addBs (a := ([32] ++ ((cutT l 9 i (i + 1)).text))) (b := [32]) rfl rfl (by have := cut_text_len l 9 i (i + 1); simp only [List.length_append, List.length_cons, List.length_nil]; omega)) (Ta false 39 (WL_callQ (Δ := [(GMx gx)]) (v := .bool (Lib.contains [32, 123, 32, 125, 32, 40, 32, 41, 32, 91, 32, 93, 32, 46, 32, 44, 32, 59, 32, 58, 32, 63, 32, 61, 32, 43, 32, 45, 32, 42, 32, 37, 32, 33, 32, 126, 32, 60, 32, 62, 32, 38, 32, 124, 32, 94, 32] (([32] ++ ((cutT l 9 i (i + 1)).text)) ++ [32]))) call168 rfl (c_contains [32, 123, 32, 125, 32, 40, 32, 41, 32, 91, 32, 93, 32, 46, 32, 44, 32, 59, 32, 58, 32, 63, 32, 61, 32, 43, 32, 45, 32, 42, 32, 37, 32, 33, 32, 126, 32, 60, 32, 62, 32, 38, 32, 124, 32, 94, 32] (([32] ++ ((cutT l 9 i (i + 1)).text)) ++ [32]) (by decide)) (K1 (.succ (.succ Z4))) (Ta false 39 (WL_rd (rd_not (b := Lib.contains [32, 123, 32, 125, 32, 40, 32, 41, 32, 91, 32, 93, 32, 46, 32, 44, 32, 59, 32, 58, 32, 63, 32, 61, 32, 43, 32, 45, 32, 42, 32, 37, 32, 33, 32, 126, 32, 60, 32, 62, 32, 38, 32, 124, 32, 94, 32] (([32] ++ ((cutT l 9 i (i + 1)).text)) ++ [32])) rfl) (Pk false (Nt ?_)))))))))))))))
   cases hb22 : (!(Lib.contains [32, 123, 32, 125, 32, 40, 32, 41, 32, 91, 32, 93, 32, 46, 32, 44, 32, 59, 32, 58, 32, 63, 32, 61, 32, 43, 32, 45, 32, 42, 32, 37, 32, 33, 32, 126, 32, 60, 32, 62, 32, 38, 32, 124, 32, 94, 32] (([32] ++ ((cutT l 9 i (i + 1)).text)) ++ [32])))
   rotate_left 1
   · refine WC_true rfl (WC_exit (At_thenX (At_blockX (At_then (WC_region (Bo (Iv ((2 : Nat) : Int)) (Iv 1) (Iv ((3 : Nat) : Int)) eqg_int rfl (Mv (Iv ((3 : Nat) : Int)) (WL_nil ?_))))))))
     exact At_againF 3 (⟨by omega, hS.trans (signL_no hsh (by simp only [Bool.not_eq_true, Bool.not_eq_false, Bool.not_eq_eq_eq_not, Bool.not_true, Bool.not_false] at hb22; rw [hb21]; rw [hb22]; rfl))⟩) ⟨rfl, rfl, rfl, rfl, trivial⟩ (En Z4 (En Z4 (En Z2 (En Z2 (En Z2 (En Z0 D1)))))) (show 3 - 3 < 3 - 2 by omega)
   refine Fz (Fa b20 0 fa47_1 (Lo b20 1 (.string (bs (cutT l 9 i (i + 1)).text)) isAgg9 Z1 rfl (Nt (WC_block (Sr (Bo (.string (bs (cutT l 9 i (i + 1)).text)) (Tx [123]) (.bool (((cutT l 9 i (i + 1)).text) == [123])) eqg_str (bin_str_eql _ _) (Av (.bool (((cutT l 9 i (i + 1)).text) == [123])) (Nt ?_))))))))
   cases hb23 : (((cutT l 9 i (i + 1)).text) == [123])
   rotate_left 1
   · refine Tr (Mv (ptr sb) (Mv (ptr sb) (Nc sb 0 (Fa sb 0 fa134_2 (Lo sb 2 (slV so) isAgg132 Z2 rfl (Bl 4 [.bool false] (bs132_1 _ rfl ) fun b25 => WL_ef (ef_pushB (op := op) (b := false) rfl rfl (.cons (.succ (.succ (.succ Z4))) (K1 Z0)) (by have := hop; first | omega | (simp at this ⊢; omega))) fun so26 => Nc sb 0 (Fa sb 0 fa134_2 (S1 sb 2 (slV so26) sizeOf132 Z3 (.skip (.skip (.put .done))) (WL_nil (At_blockN (At_then (Sr (WL_rd (rd_loadN (b := b20) (o := 0) (vs := [Iv ((cutT l 9 i (i + 1)).kind), .string (bs (cutT l 9 i (i + 1)).text), Iv ((cutT l 9 i (i + 1)).pos), Iv ((cutT l 9 i (i + 1)).en)]) isAgg47 sizeOf47 rfl Z3 rfl rfl) (Sa b1 0 [Iv ((cutT l 9 i (i + 1)).kind), .string (bs (cutT l 9 i (i + 1)).text), Iv ((cutT l 9 i (i + 1)).pos), Iv ((cutT l 9 i (i + 1)).en)] sizeOf47 (.succ (.succ Z4)) (.put (.put (.put (.put .done)))) (Nr (At_blockR (At_thenR (At_loopR (At_blockR (At_thenR ?_))))))))))))))))))))
     have eT : (signL l i signs3) = cutT l 9 i (i + 1) := hS.trans (signL_yes hsh (by simp only [Bool.not_eq_true, Bool.not_eq_false, Bool.not_eq_eq_eq_not, Bool.not_true, Bool.not_false] at hb22; rw [hb21]; rw [hb22]; rfl))
     have eO : opS (signL l i signs3).text op = false :: op := by rw [eT]; unfold opS; rw [hb23]; rfl
     refine At_retC results113 isAgg47 sizeOf47 rfl Z0 rfl (fun w q => ⟨so26, ?_, ?_⟩)
     · rw [eT]; try rfl
     rw [eO]; exact q.mono (En Z1 (En Z4 (En Z1 (En Z1 D3))))
   refine WC_false rfl (Sr (Bo (.string (bs (cutT l 9 i (i + 1)).text)) (Tx [125]) (.bool (((cutT l 9 i (i + 1)).text) == [125])) eqg_str (bin_str_eql _ _) (Av (.bool (((cutT l 9 i (i + 1)).text) == [125])) (Nt ?_))))
   cases hb24 : (((cutT l 9 i (i + 1)).text) == [125])
   · refine WC_false rfl (WC_skip (At_blockN (At_then (Sr (WL_rd (rd_loadN (b := b20) (o := 0) (vs := [Iv ((cutT l 9 i (i + 1)).kind), .string (bs (cutT l 9 i (i + 1)).text), Iv ((cutT l 9 i (i + 1)).pos), Iv ((cutT l 9 i (i + 1)).en)]) isAgg47 sizeOf47 rfl Z1 rfl rfl) (Sa b1 0 [Iv ((cutT l 9 i (i + 1)).kind), .string (bs (cutT l 9 i (i + 1)).text), Iv ((cutT l 9 i (i + 1)).pos), Iv ((cutT l 9 i (i + 1)).en)] sizeOf47 (.succ Z4) (.put (.put (.put (.put .done)))) (Nr (At_blockR (At_thenR (At_loopR (At_blockR (At_thenR ?_))))))))))))
     have eT : (signL l i signs3) = cutT l 9 i (i + 1) := hS.trans (signL_yes hsh (by simp only [Bool.not_eq_true, Bool.not_eq_false, Bool.not_eq_eq_eq_not, Bool.not_true, Bool.not_false] at hb22; rw [hb21]; rw [hb22]; rfl))
     have eO : opS (signL l i signs3).text op = op := by rw [eT]; unfold opS; rw [hb23, hb24]; rfl
     refine At_retC results113 isAgg47 sizeOf47 rfl Z0 rfl (fun w q => ⟨so, ?_, ?_⟩)
     · rw [eT]; try rfl
     rw [eO]; exact q.mono (En Z3 (En Z3 (En Z4 (En Z1 D3))))
   refine WC_true rfl (WC_draw [13, 14, 15] [Cl sb 134 [Sl bb l.length cap, Iv i, slV so], OB so op] mixed (Dt 0 rfl rfl (Q0 (K2 Z2 (.succ Z4))) (Rm (ptr sb) rfl) (Dt 1 rfl rfl (Q0 (K2 Z2 (.succ Z4))) (Rm (ptr sb) rfl) (Dt 2 rfl rfl (Q0 (K2 Z2 (.succ Z4))) (Rn sb 0 rfl) (Dt 3 rfl rfl (Q0 (K2 Z2 (.succ Z4))) (Rf sb 0 fa134_2 rfl) (Dt 4 rfl rfl (Q0 (K2 Z2 (.succ Z4))) (Rl sb 2 (slV so) isAgg132 rfl Z0 rfl) (Dt 5 rfl rfl (Q0 (K2 Z2 (.succ Z4))) (Rm (ptr sb) rfl) (Dt 6 rfl rfl (Q0 (K2 Z2 (.succ Z4))) (Rn sb 0 rfl) (Dt 7 rfl rfl (Q0 (K2 Z2 (.succ Z4))) (Rf sb 0 fa134_2 rfl) (Dt 8 rfl rfl (Q0 (K2 Z2 (.succ Z4))) (Rl sb 2 (slV so) isAgg132 rfl Z0 rfl) (Dt 9 rfl rfl (Q0 (K2 Z2 (.succ Z4))) (rd_lenOB (op := op) runUnderlying132 rfl Z1) (Dt 10 rfl rfl (Q0 (K2 Z2 (.succ Z4))) (Rb (Iv op.length) (Iv 1) (Iv (((op.length : Nat) : Int) - 1)) rfl rfl eqg_int (bin_sub (by omega) (by omega))) (Dt 11 rfl rfl (Q0 (K2 Z2 (.succ Z4))) (rd_maxI (a := 0) (b := ((op.length : Nat) : Int) - 1) (c := ((op.length - 1 : Nat) : Int)) rfl rfl (by omega)) (Dt 12 rfl rfl (Q0 (K2 Z2 (.succ Z4))) (rd_popB (so := so) (op := op) runUnderlying132 sizeOf4 rfl rfl rfl Z1) (WD_rd 13 (by kernel_rfl) rfl rfl rfl (Rn sb 0 rfl) (late_vac (i := 13) (by kernel_rfl) (by decide)) (WD_rd 14 (by kernel_rfl) rfl rfl rfl (Rf sb 0 fa134_2 rfl) (late_vac (i := 14) (by kernel_rfl) (by decide)) (WD_ef0 15 (by kernel_rfl) rfl rfl rfl (ef_store (b := sb) (o := 2) (v := slV (so.1, op.length - 1, so.2.2)) (vs := [slV (so.1, op.length - 1, so.2.2)]) sizeOf132 rfl rfl rfl rfl rfl Z2 (.skip (.skip (.put .done)))) (late_vac (i := 15) (by kernel_rfl) (by decide)) ?_)))))))))))))))))
   refine WD_done (by kernel_rfl) ?_ _
   refine At_blockN (At_then (Sr (WL_rd (rd_loadN (b := b20) (o := 0) (vs := [Iv ((cutT l 9 i (i + 1)).kind), .string (bs (cutT l 9 i (i + 1)).text), Iv ((cutT l 9 i (i + 1)).pos), Iv ((cutT l 9 i (i + 1)).en)]) isAgg47 sizeOf47 rfl Z2 rfl rfl) (Sa b1 0 [Iv ((cutT l 9 i (i + 1)).kind), .string (bs (cutT l 9 i (i + 1)).text), Iv ((cutT l 9 i (i + 1)).pos), Iv ((cutT l 9 i (i + 1)).en)] sizeOf47 (.succ Z4) (.put (.put (.put (.put .done)))) (Nr (At_blockR (At_thenR (At_loopR (At_blockR (At_thenR ?_))))))))))
   have eT : (signL l i signs3) = cutT l 9 i (i + 1) := hS.trans (signL_yes hsh (by simp only [Bool.not_eq_true, Bool.not_eq_false, Bool.not_eq_eq_eq_not, Bool.not_true, Bool.not_false] at hb22; rw [hb21]; rw [hb22]; rfl))
   refine At.ent (Ent.trans (Sel.ent (.succ (.succ Z4))) ob_pop) ?_
   have eO : opS (signL l i signs3).text op = op.tail := by rw [eT]; unfold opS; rw [hb23, hb24]; rfl
   refine At_retC results113 isAgg47 sizeOf47 rfl Z1 rfl (fun w q => ⟨(so.1, op.length - 1, so.2.2), ?_, ?_⟩)
   · rw [eT]; try rfl
   rw [eO]; exact q.mono (En Z2 (En Z4 (En Z0 (En Z1 D3))))
 have hS : signL l i signs3 = noT := hS
 refine Sr (Bo (Iv ((3 : Nat) : Int)) (Iv 3) (.bool false) eqg_int rfl (Nt (WC_seq (WC_false rfl (WC_exit (At_thenX (At_loopX (At_blockX (At_then (Sr (WL_rd (rd_build (vs := []) (v := .agg #[Iv 0, Tx [], Iv 0, Iv 0]) rfl (bd47_z )) (Sa b1 0 [Iv 0, Tx [], Iv 0, Iv 0] sizeOf47 Z1 (.put (.put (.put (.put .done)))) (Nr ?_)))))))))))))
 have eT : (signL l i signs3) = noT := hS
 have eO : opS (signL l i signs3).text op = op := by rw [eT]; rfl
 refine At_retC results113 isAgg47 sizeOf47 rfl Z0 rfl (fun w q => ⟨so, ?_, ?_⟩)
 · rw [eT]; try rfl
 rw [eO]; exact q.mono (En Z2 (En Z2 (En Z2 (En Z2 D2))))
theorem c_begin {bb n cap : Nat} : ∀ F w, Sat ([] ++ F) w → Calls prog 71 [Sl bb n cap].toArray w fun e w' => ∃ b : Nat, e = .returned (ptr b) ∧ Sat ([Cl b 134 [Sl bb n cap, Iv 0, .slice none 0 0], OB (none, 0, 0) []] ++ F) w' := by
 intro F
 refine calls_of_WC (fn := f71) func71 rfl rfl (Sr (Av (.pointer none) (Ny (Mv (Sl bb n cap) (WL_rd (rd_build (vs := [(0, Sl bb n cap)]) (v := .agg #[Sl bb n cap, Iv 0, .slice none 0 0]) rfl (bd134_0 _ rfl )) (WL_ef (ef_box (v := .agg #[Sl bb n cap, Iv 0, .slice none 0 0]) (l := [Sl bb n cap, Iv 0, .slice none 0 0]) rfl rfl) fun b1 => Av (ptr b1) (Nr (At.ent ob_nil ?_))))))))
 exact At_ret1 results71 (fun w q => ⟨b1, rfl, q.mono (E2 Z1 Z0)⟩)
end
end Go.Proofs
