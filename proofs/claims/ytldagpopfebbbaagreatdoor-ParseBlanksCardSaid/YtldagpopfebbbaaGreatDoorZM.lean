/- A slice of bytes that is read; slices.Clone; lists of tokens that grow; frames with yield's arguments. -/
import Derived.Test.YtldagpopfebbbaaGreatDoorZL
set_option linter.unusedVariables false
set_option linter.unusedSimpArgs false
namespace Go.Proofs
open Go.Px Tryz
attribute [local semireducible] WL WC At WD
def RB (v : Value) (l : Bs) : RX → HP
 | none => Pr (l = [] ∧ (v = .slice none 0 0 ∨ ∃ a cap, v = .slice (some a) 0 cap))
 | some (b, ob) => fun h => Blk b ob h ∧ ∃ o cap c T fz, ob = .cells c T fz ∧ v = .slice (some ⟨b, o, none⟩) l.length cap ∧ (c.toList.drop o).take l.length = l.map u8v
theorem rb_cases {v : Value} {l : Bs} {rx : RX} {F : List HP} {w : World} (s : Sat (RB v l rx :: F) w) : (rx = none ∧ v = .slice none 0 0 ∧ l = [] ∧ Sat F w) ∨ (∃ a cap, rx = none ∧ v = .slice (some a) 0 cap ∧ l = [] ∧ Sat F w) ∨
 ∃ b o cap c T fz, rx = some (b, .cells c T fz) ∧ v = .slice (some ⟨b, o, none⟩) l.length cap ∧ (c.toList.drop o).take l.length = l.map u8v ∧ Sat (Blk b (.cells c T fz) :: F) w := by
 obtain ⟨h1, h2, d, p, q⟩ := id s
 rcases rx with _ | ⟨b, ob⟩
 · obtain ⟨e1, e2 | ⟨a, cap, e2⟩⟩ := p
   · exact .inl ⟨rfl, e2, e1, sep_drop s⟩
   exact .inr (.inl ⟨a, cap, rfl, e2, e1, sep_drop s⟩)
 obtain ⟨p, o, cap, c, T, fz, rfl, e1, e2⟩ := p
 exact .inr (.inr ⟨b, o, cap, c, T, fz, rfl, e1, e2, h1, h2, d, p, q⟩)
theorem rb_some {b o cap : Nat} {l : Bs} {c : Array Value} {T : TypeId} {fz : Nat × Nat} {F : List HP} (e : (c.toList.drop o).take l.length = l.map u8v) : Ent (Blk b (.cells c T fz) :: F) (RB (.slice (some ⟨b, o, none⟩) l.length cap) l (some (b, .cells c T fz)) :: F) :=
 Ent.head fun h p => ⟨p, o, cap, c, T, fz, rfl, rfl, e⟩
theorem rb_blk {v : Value} {l : Bs} {b : Nat} {ob : Obj} {F : List HP} : Ent (RB v l (some (b, ob)) :: F) (Blk b ob :: F) := Ent.head fun h p => p.1
theorem rb_none {v : Value} (h : v = .slice none 0 0 ∨ ∃ a cap, v = .slice (some a) 0 cap) {F : List HP} : Ent F (RB v [] none :: F) := ent_pure ⟨rfl, h⟩ F
section
variable {n : Nat} {Q : Post} {ρ : Env} {ds : List Deferred} {Γ Γ' F : List HP} {ops : Array Oper} {rest : List Oper} {d : Option Tmp} {t : Tmp} {ty : TypeId} {pos : String} {af : Array Edge} {gd : Option (Nat × Bool)}
theorem ef_appRB {x y : Operand} {so : SV} {s l : Bs} {b o cap : Nat} {c : Array Value} {T : TypeId} {fz : Nat × Nat} (hx : evE n ρ x = slV so) (hy : evE n ρ y = .slice (some ⟨b, o, none⟩) l.length cap) (e : (c.toList.drop o).take l.length = l.map u8v)
 (hs : Sels Γ [BY so s, Blk b (.cells c T fz)] Γ') (hb : s.length + l.length ≤ 70368744177664) :
 Ef prog n ρ ⟨d, .call ⟨.builtin .append, #[x, y], #[22, 22]⟩, ty, pos, af, gd⟩ Γ slV (fun v' => BY v' (s ++ l) :: Blk b (.cells c T fz) :: Γ') := fun w q => by
 have q : Sat (Arr 5 1 (slV so) s.length (s.map u8v) :: Blk b (.cells c T fz) :: Γ') w := q.mono hs.ent
 obtain ⟨v', w', hr, hS⟩ := run_append (ty := ty) (sz := 1) (bytes := 1) (m2 := l.length) (c2 := cap) (o2 := o) (news := l.map u8v) underlying22 info5 rfl rfl rfl rfl (by decide) (by simp) (by rw [List.all_eq_true]; intro u hu; obtain ⟨c, _, rfl⟩ := List.mem_map.1 hu; rfl) (by omega) (by decide) q (by rw [Nat.mul_one]; exact e)
 rw [← List.map_append, ← List.length_append] at hS
 obtain ⟨s', rfl, _⟩ : ∃ s', v' = slV s' ∧ s'.2.1 = (s ++ l).length := by
  obtain ⟨h1, h2, d, p, _⟩ := hS
  exact arr_slice p
 refine ⟨s', w', ?_, hS⟩
 simp only [execOp, resolve, invoke, builtin, Sem.run_bind, Sem.run_pure, Result.andThen_ok, List.map_toArray, List.map_cons, List.map_nil, hx, hy, hr]
theorem ef_appRB0 {x y : Operand} {so : SV} {s : Bs} {a : Addr} {cap : Nat} (hx : evE n ρ x = slV so) (hy : evE n ρ y = .slice (some a) 0 cap)
 (hs : Sel Γ (BY so s) Γ') (hb : s.length ≤ 70368744177664) :
 Ef prog n ρ ⟨d, .call ⟨.builtin .append, #[x, y], #[22, 22]⟩, ty, pos, af, gd⟩ Γ slV (fun v' => BY v' s :: Γ') := fun w q => by
 have q : Sat (Arr 5 1 (slV so) s.length (s.map u8v) :: Γ') w := q.mono hs.ent
 obtain ⟨v', w', hr, hS⟩ := run_append0 (ty := ty) (sz := 1) (bytes := 1) (m2 := 0) (c2 := cap) (a := a) (news := []) underlying22 info5 rfl rfl rfl rfl (by decide) rfl rfl (by omega) (by decide) q (by intro j u h; cases h)
 rw [List.append_nil] at hS
 obtain ⟨s', rfl, _⟩ : ∃ s', v' = slV s' ∧ s'.2.1 = s.length := by
  obtain ⟨h1, h2, d, p, _⟩ := hS
  exact arr_slice p
 refine ⟨s', w', ?_, hS⟩
 simp only [execOp, resolve, invoke, builtin, Sem.run_bind, Sem.run_pure, Result.andThen_ok, List.map_toArray, List.map_cons, List.map_nil, hx, hy, hr]
def TK (s : SV) (ts : List Tk) : HP := Arr 47 4 (slV s) ts.length (ts.flatMap tkCells)
theorem Tryz.info47 : prog.info? 47 = some t47 := by kernel_rfl
theorem ef_appTok {x y : Operand} {so : SV} {ts : List Tk} {t1 : Tk} {b2 : Nat} (hx : evE n ρ x = slV so) (hy : evE n ρ y = .slice (some ⟨b2, 0, none⟩) 1 1) (hs : Sels Γ [TK so ts, Cl b2 47 (tkCells t1)] Γ') (hb : ts.length ≤ 1000000) :
 Ef prog n ρ ⟨d, .call ⟨.builtin .append, #[x, y], #[43, 43]⟩, ty, pos, af, gd⟩ Γ slV (fun v' => TK v' (ts ++ [t1]) :: Γ') := fun w q => by
 have q : Sat (TK so ts :: Cl b2 47 (tkCells t1) :: Γ') w := q.mono hs.ent
 obtain ⟨s', w', hr, hS⟩ := ef_append (d := d) (ty := ty) (pos := pos) (af := af) (gd := gd) (e := 47) (z := .agg #[.int .i64 0, .string ⟨#[]⟩, .int .i64 0, .int .i64 0]) (sz := 4) (bytes := 40) (m := ts.length) (m2 := 1) (c2 := 1) (o2 := 0) (news := tkCells t1) underlying43 info47 rfl rfl rfl rfl (by decide) (by decide) hx hy .zero .zero rfl rfl rfl (by omega) w q
 refine ⟨s', w', hr, ?_⟩
 have hS : Sat (Arr 47 4 (slV s') (ts.length + 1) (ts.flatMap tkCells ++ tkCells t1) :: Γ') w' := hS.mono (Ent.tail (Ent.dropHead (.refl _)))
 have e1 : (ts ++ [t1]).length = ts.length + 1 := by simp
 have e2 : (ts ++ [t1]).flatMap tkCells = ts.flatMap tkCells ++ tkCells t1 := by simp
 unfold TK
 rw [e1, e2]; exact hS
theorem tk_nil : Ent Γ (TK (none, 0, 0) [] :: Γ) := arr_nil 47 4 Γ
end
theorem c_clone {v : Value} {l : Bs} {rx : RX} (hl : l.length ≤ 1099511627776) : ∀ F w, Sat ([RB v l rx] ++ F) w → Calls prog 69 [v].toArray w fun e w' => ∃ so : SV, e = .returned (slV so) ∧ Sat ([BY so l, RB v l rx] ++ F) w' := fun F w s => by
 rcases rb_cases s with ⟨rfl, rfl, rfl, s9⟩ | ⟨a, cap, rfl, rfl, rfl, s9⟩ | ⟨b, o, cap, c, T, fz, rfl, rfl, e, s9⟩
 · suffices h : ∀ w, Sat F w → Calls prog 69 [Value.slice none 0 0].toArray w fun e w' => ∃ so : SV, e = .returned (slV so) ∧ Sat ([BY so [], RB (.slice none 0 0) [] none] ++ F) w' from h w s9
   refine calls_of_WC (fn := f69) func69 rfl rfl ?_
   refine WC_seq ?_
   refine WC_region ?_
   refine WL_rd (rd_assign (v := .slice none 0 0) rfl) ?_
   refine WL_nil ?_
   refine At_then ?_
   refine WC_seq ?_
   refine WC_seq ?_
   refine WC_region ?_
   refine WL_rd (rd_move (v := .slice none 0 0) rfl) ?_
   refine WL_rd (rd_eqSN (a := none) underlying22 rfl) ?_
   refine WL_nil ?_
   refine At_then ?_
   refine WC_true rfl ?_
   refine WC_seq ?_
   refine WC_region ?_
   refine WL_rd (rd_assign (v := .slice none 0 0) rfl) ?_
   refine WL_nil ?_
   refine At_then ?_
   refine WC_ret ?_
   refine At_thenR ?_
   exact At_ret1 results69 fun w s => ⟨(none, 0, 0), rfl, s.mono ((rb_none (.inl rfl)).trans by_nil)⟩
 · suffices h : ∀ w, Sat F w → Calls prog 69 [Value.slice (some a) 0 cap].toArray w fun e w' => ∃ so : SV, e = .returned (slV so) ∧ Sat ([BY so [], RB (.slice (some a) 0 cap) [] none] ++ F) w' from h w s9
   refine calls_of_WC (fn := f69) func69 rfl rfl ?_
   refine WC_seq ?_
   refine WC_region ?_
   refine WL_rd (rd_assign (v := .slice none 0 0) rfl) ?_
   refine WL_nil ?_
   refine At_then ?_
   refine WC_seq ?_
   refine WC_seq ?_
   refine WC_region ?_
   refine WL_rd (rd_move (v := .slice (some a) 0 cap) rfl) ?_
   refine WL_rd (rd_eqSN (a := some a) underlying22 rfl) ?_
   refine WL_nil ?_
   refine At_then ?_
   refine WC_false rfl ?_
   refine WC_skip ?_
   refine At_then ?_
   refine WC_seq ?_
   refine WC_region ?_
   refine WL_ef (ef_buildSlice (E := 5) (vs := []) (l := []) rfl (bs22_0)) fun b1 => ?_
   refine WL_rd (rd_move (v := .slice (some a) 0 cap) rfl) ?_
   refine WL.ent (arr_of_cl (T := 5) (sz := 1) (b := b1) (m := 0) (xs := []) (by decide) rfl _) ?_
   refine WL_ef (ef_appRB0 (so := (some ⟨b1, 0, none⟩, 0, 0)) (s := []) rfl rfl .zero (by decide)) fun so => ?_
   refine WL_rd (rd_assign (v := slV so) rfl) ?_
   refine WL_nil ?_
   refine At_then ?_
   refine WC_ret ?_
   exact At_ret1 results69 fun w s => ⟨so, rfl, s.mono (Ent.tail (rb_none (.inr ⟨a, cap, rfl⟩)))⟩
 suffices h : ∀ w, Sat (Blk b (.cells c T fz) :: F) w → Calls prog 69 [Value.slice (some ⟨b, o, none⟩) l.length cap].toArray w fun e w' => ∃ so : SV, e = .returned (slV so) ∧ Sat ([BY so l, RB (.slice (some ⟨b, o, none⟩) l.length cap) l (some (b, .cells c T fz))] ++ F) w' from h w s9
 refine calls_of_WC (fn := f69) func69 rfl rfl ?_
 refine WC_seq ?_
 refine WC_region ?_
 refine WL_rd (rd_assign (v := .slice none 0 0) rfl) ?_
 refine WL_nil ?_
 refine At_then ?_
 refine WC_seq ?_
 refine WC_seq ?_
 refine WC_region ?_
 refine WL_rd (rd_move (v := .slice (some ⟨b, o, none⟩) l.length cap) rfl) ?_
 refine WL_rd (rd_eqSN (a := some ⟨b, o, none⟩) underlying22 rfl) ?_
 refine WL_nil ?_
 refine At_then ?_
 refine WC_false rfl ?_
 refine WC_skip ?_
 refine At_then ?_
 refine WC_seq ?_
 refine WC_region ?_
 refine WL_ef (ef_buildSlice (E := 5) (vs := []) (l := []) rfl (bs22_0)) fun b1 => ?_
 refine WL_rd (rd_move (v := .slice (some ⟨b, o, none⟩) l.length cap) rfl) ?_
 refine WL.ent (arr_of_cl (T := 5) (sz := 1) (b := b1) (m := 0) (xs := []) (by decide) rfl _) ?_
 refine WL_ef (ef_appRB (so := (some ⟨b1, 0, none⟩, 0, 0)) (s := []) (l := l) rfl rfl e (.cons .zero (.cons .zero .nil)) (by simp; omega)) fun so => ?_
 refine WL_rd (rd_assign (v := slV so) rfl) ?_
 refine WL_nil ?_
 refine At_then ?_
 refine WC_ret ?_
 exact At_ret1 results69 fun w s => ⟨so, rfl, s.mono (Ent.tail (rb_some e))⟩
theorem tmps_upd (n : Nat) (ρ : Env) (ds : List Deferred) (t : Tmp) (v : Value) : (actOf n ρ ds).tmps.setIfInBounds t v = (actOf n (upd ρ t v) ds).tmps := by
 have := actOf_put n ρ ds (some t) v
 exact congrArg Act.tmps this
end Go.Proofs

namespace Go.Proofs
open Go.Px Tryz
attribute [local semireducible] WL WC At WD WCR
section
variable {n L : Nat} {Q : Post} {ρ : Env} {ds : List Deferred} {Γ Γ' F : List HP} {R0 R1 : Loop} {R : Ending → World → Prop}
def assignQ (L n : Nat) (body : Code) (R : Ending → World → Prop) : Post
 | .normal, ρ, ds, w => ∃ w₂, (Instr.beginRound L).run prog w = .ok () w₂ ∧ body.wpIn (RF L) 0 prog (roundPost prog L R) (actOf n ρ ds) w₂
 | _, _, _, _ => False
def roundQ (L : Nat) (R : Ending → World → Prop) : Post
 | .normal, ρ, ds, w => ∃ v w', (Instr.endRound L none).run prog w = .ok v w' ∧ R (.returned v) w'
 | .ret, ρ, ds, w => ∃ v w', (Instr.endRound L (some .ret)).run prog w = .ok v w' ∧ R (.returned v) w'
 | _, _, _, _ => False
theorem yield_round {args : List Value} {w : World} (s : Sat (Blk L (.loop R0) :: Γ) w) (hsz : args.toArray.size = R0.params.size)
 (htm : (R0.params.zip args.toArray).foldl (fun tmps (t, a) => tmps.setIfInBounds t a) R0.tmps = (actOf n ρ []).tmps)
 (h : WCR L prog n R0.assign (assignQ L n R0.body R) ρ [] (Blk L (.loop R0) :: Γ)) : YieldAt Fence.wide 0 prog L args.toArray w R := by
 refine ⟨R0.fn, _, R0.assign, R0.body, run_yield (Sat.blk s) hsz, roundIn_of_wpIn trivial ?_⟩
 rw [htm]
 refine wpIn_mono (h w s) ?_
 intro e a w q
 cases e with
 | panic c => obtain ⟨ρ, _, q⟩ := q; exact q.elim
 | normal => obtain ⟨ρ, ds, rfl, q⟩ := q; exact q
 | outgrown => obtain ⟨ρ, ds, rfl, q⟩ := q; exact q.elim
 | ret => obtain ⟨ρ, ds, rfl, q⟩ := q; exact q.elim
 | exit i => obtain ⟨ρ, ds, rfl, q⟩ := q; exact q.elim
 | goto i => obtain ⟨ρ, ds, rfl, q⟩ := q; exact q.elim
theorem At_assign {body : Code} (hs : Sel Γ (Blk L (.loop R0)) Γ') (hr : R0.state = .ready) (h : WCR L prog n body (roundQ L R) ρ ds (Blk L (.loop { R0 with state := .busy }) :: Γ')) :
 At .normal (assignQ L n body R) ρ ds Γ := fun w s => by
 have s := s.mono hs.ent
 refine ⟨_, run_beginRound (Sat.blk s) hr, ?_⟩
 refine wpIn_mono (h _ (putObj_sat s)) ?_
 intro e a w q
 cases e with
 | panic c => obtain ⟨ρ, _, q⟩ := q; exact q.elim
 | normal => obtain ⟨ρ, ds, rfl, q⟩ := q; exact q
 | outgrown => obtain ⟨ρ, ds, rfl, q⟩ := q; exact q.elim
 | ret => obtain ⟨ρ, ds, rfl, q⟩ := q; exact q
 | exit i => obtain ⟨ρ, ds, rfl, q⟩ := q; exact q.elim
 | goto i => obtain ⟨ρ, ds, rfl, q⟩ := q; exact q.elim
theorem At_roundN (hs : Sel Γ (Blk L (.loop R1)) Γ') (h : ∀ w, Sat (Blk L (.loop { R1 with state := .ready, pending := none }) :: Γ') w → R (.returned (.bool true)) w) : At .normal (roundQ L R) ρ ds Γ := fun w s => by
 have s := s.mono hs.ent
 exact ⟨_, _, run_endRound none (Sat.blk s), h _ (putObj_sat s)⟩
theorem At_roundR (hs : Sel Γ (Blk L (.loop R1)) Γ') (h : ∀ w, Sat (Blk L (.loop { R1 with state := .done, pending := some .ret }) :: Γ') w → R (.returned (.bool false)) w) : At .ret (roundQ L R) ρ ds Γ := fun w s => by
 have s := s.mono hs.ent
 exact ⟨_, _, run_endRound (some .ret) (Sat.blk s), h _ (putObj_sat s)⟩
end
theorem fold2 (T : Array Value) (a b : Tmp) (v w : Value) : ((#[a, b] : Array Tmp).zip [v, w].toArray).foldl (fun tmps (t, x) => tmps.setIfInBounds t x) T = (T.setIfInBounds a v).setIfInBounds b w := by simp
def JT (L D b2 b3 b4 b5 : Nat) (R0 : Loop) (ts : List Tk) : HP := Ex fun s : SV => All [Blk L (.loop R0), Blk D (.deferred (some [])), Cl b2 43 [.slice none 0 0], Cl b3 3 [.int .i64 0], Cl b4 27 [.int .i64 0], Cl b5 43 [slV s], TK s ts]
def JX (L D b2 b3 b4 : Nat) (R0 : Loop) (a er : Int) : HP := All [Blk L (.loop { R0 with state := .done, pending := some .ret }), Blk D (.deferred (some [])), Cl b2 43 [.slice none 0 0], Cl b3 3 [.int .i64 a], Cl b4 27 [.int .i64 er]]
theorem c_scanAny {gx : GX} {l : Bs} {K L cb : Nat} {so : SV} {J : List Tk → HP} {JX : Int → Int → HP} {r : List Tk ⊕ (Int × Int)} (hl : l.length ≤ 1048576) (hY : YS L J JX) (hK : tokensB l K = some r) :
 ∀ F w, Sat ([Cl cb 22 [slV so], BY so l, (GMx gx), J []] ++ F) w → Calls prog 70 [.func (.yield L) #[] #[], ptr cb].toArray w fun e w' => e = .returned (.tuple #[]) ∧ Sat ([endJ J JX r, (GMx gx)] ++ F) w' := fun F w s => by
 have s : Sat (BY so l :: Cl cb 22 [slV so] :: (GMx gx) :: J [] :: F) w := sep_swap s
 obtain ⟨h1, h2, d, p, q⟩ := id s
 obtain ⟨hlen, hv⟩ := p
 rcases hv with ⟨e, hm⟩ | ⟨b, cap, sp, e, hmc, hcm, hcs, hblk⟩
 rotate_left 1
 · have s2 : Sat (Cl b 5 (l.map u8v ++ sp) :: Cl cb 22 [slV so] :: (GMx gx) :: J [] :: F) w := ⟨h1, h2, d, hblk, q⟩
   rw [e] at s2
   exact c_scan1 hmc hl hY hK F w (sep_swap s2)
 have hl0 : l = [] := List.eq_nil_of_length_eq_zero hm
 subst hl0
 have hr : r = .inl [⟨10, [], 0, 0⟩] := by
  cases K with
  | zero => cases hK
  | succ k =>
   have : tokensB [] (k + 1) = some (.inl [⟨10, [], 0, 0⟩]) := rfl
   rw [this] at hK; exact (Option.some.inj hK).symm
 subst hr
 have s2 : Sat (Cl cb 22 [slV so] :: J [] :: (GMx gx) :: F) w := by
  have s3 := sep_drop s
  exact Sat.mono (Γ := Cl cb 22 [slV so] :: (GMx gx) :: J [] :: F) s3 (.tail (fun h q => sep_swap q))
 rw [e] at s2
 exact c_scan1Nil hY ((GMx gx) :: F) w s2
section
variable {n L D b2 b3 b4 b5 : Nat} {Q : Post} {ρ : Env} {ds : List Deferred} {F : List HP} {R0 : Loop} {r : List Tk ⊕ (Int × Int)}
theorem range_post (hp : R0.pending = none) (hb : R0.state = .ready)
 (hN : ∀ ts s, r = .inl ts → At .normal Q ρ ds (Blk L (.loop { R0 with state := .exhausted }) :: Blk D (.deferred (some [])) :: Cl b2 43 [.slice none 0 0] :: Cl b3 3 [.int .i64 0] :: Cl b4 27 [.int .i64 0] :: Cl b5 43 [slV s] :: TK s ts :: F))
 (hR : ∀ a er, r = .inr (a, er) → At .ret Q ρ ds (Blk D (.deferred (some [])) :: Cl b2 43 [.slice none 0 0] :: Cl b3 3 [.int .i64 a] :: Cl b4 27 [.int .i64 er] :: F)) :
 ∀ e w, (e = .returned (.tuple #[]) ∧ Sat ([endJ (JT L D b2 b3 b4 b5 R0) (JX L D b2 b3 b4 R0) r] ++ F) w) → rangePost Fence.wide 0 prog L (lift n Q) (actOf n ρ ds) e w := by
 rintro e w ⟨rfl, s⟩
 rcases r with ts | ⟨a, er⟩
 · have s : Sat (JT L D b2 b3 b4 b5 R0 ts :: F) w := s
   obtain ⟨s0, s⟩ := sep_ex s
   have s := ent_all [_, _, _, _, _, _, _] F _ s
   refine ⟨none, _, ?_, ρ, ds, rfl, hN ts s0 rfl _ (putObj_sat s)⟩
   have := run_endLoop (P := prog) (Sat.blk s) (by rw [hb]; simp)
   exact this.trans (by rw [hp])
 have s : Sat (JX L D b2 b3 b4 R0 a er :: F) w := s
 have s := ent_all [_, _, _, _, _] F _ s
 refine ⟨some .ret, _, run_endLoop (P := prog) (Sat.blk s) (by simp), ?_⟩
 exact wpIn_ret ⟨ρ, ds, rfl, hR a er rfl _ (sep_drop (putObj_sat s))⟩
end
theorem results_cells3 {P : Program} {fn : Func} {w : World} {tmps : Array Value} {a b c : Tmp} {S T U : TypeId} {x y z : Nat} {E1 E2 E3 : TypeId} {v1 v2 v3 : Value} (hres : fn.results = #[.cell a S, .cell b T, .cell c U])
 (hA : ∀ w, (isAgg S).run P w = .ok false w) (hB : ∀ w, (isAgg T).run P w = .ok false w) (hC : ∀ w, (isAgg U).run P w = .ok false w)
 (h1 : tmps.getD a undef = .pointer (some ⟨x, 0, none⟩)) (h2 : tmps.getD b undef = .pointer (some ⟨y, 0, none⟩)) (h3 : tmps.getD c undef = .pointer (some ⟨z, 0, none⟩))
 (k1 : w.heap[x]? = some (.cells [v1].toArray E1 (0, 0))) (k2 : w.heap[y]? = some (.cells [v2].toArray E2 (0, 0))) (k3 : w.heap[z]? = some (.cells [v3].toArray E3 (0, 0))) :
 (results fn tmps).run P w = .ok (.tuple #[v1, v2, v3]) w := by
 have r1 := run_cell1 (P := P) (T := S) hA h1 k1
 have r2 := run_cell1 (P := P) (T := T) hB h2 k2
 have r3 := run_cell1 (P := P) (T := U) hC h3 k3
 rw [h1] at r1; rw [h2] at r2; rw [h3] at r3
 rw [Array.getD_eq_getD_getElem?] at h1 h2 h3
 simp only [results, hres]
 simp [asAddr] at r1 r2 r3
 simp [h1, h2, h3, asAddr, r1, r2, r3]
theorem At_retM3 {P : Program} {fn : Func} {R : Ending → World → Prop} {ρ : Env} {D : Nat} {Γ Γ' : List HP} {a b c : Tmp} {S T U : TypeId} {x y z : Nat} {E1 E2 E3 : TypeId} {v1 v2 v3 : Value} (hres : fn.results = #[.cell a S, .cell b T, .cell c U])
 (hA : ∀ w, (isAgg S).run P w = .ok false w) (hB : ∀ w, (isAgg T).run P w = .ok false w) (hC : ∀ w, (isAgg U).run P w = .ok false w)
 (h1 : evE fn.ntmps ρ (.tmp a) = .pointer (some ⟨x, 0, none⟩)) (h2 : evE fn.ntmps ρ (.tmp b) = .pointer (some ⟨y, 0, none⟩)) (h3 : evE fn.ntmps ρ (.tmp c) = .pointer (some ⟨z, 0, none⟩))
 (hs : Sels Γ [Blk D (.deferred (some [])), Cl x E1 [v1], Cl y E2 [v2], Cl z E3 [v3]] Γ') (hR : ∀ w, Sat Γ' w → R (.returned (.tuple #[v1, v2, v3])) w) :
 At .ret (bodyQM P fn R) ρ [{ target := .collected D, args := #[] }] Γ :=
 At.ent hs.ent (At_retM .zero fun w s => by
  have s1 := sep_drop s
  have s2 := sep_drop s1
  have s3 := sep_drop s2
  refine ⟨_, results_cells3 hres hA hB hC (by rw [actOf_getD]; exact h1) (by rw [actOf_getD]; exact h2) (by rw [actOf_getD]; exact h3) (Sat.blk s1) (Sat.blk s2) (Sat.blk s3), hR w (sep_drop s3)⟩)
end Go.Proofs

namespace Go.Proofs
open Go.Px Tryz
section
variable {pb tb cap K : Nat} {L : List Tk} {g : NT → M PT} {gx : GX} {rx : RX}
def TokR (gx : GX) (rx : RX) (sv : SV) (l : Bs) (F : List HP) : List Tk ⊕ (Int × Int) → Ending → World → Prop
 | .inl ts, e, w => ∃ s : SV, e = .returned (.tuple #[slV s, Iv 0, Iv 0]) ∧ Sat ([TK s ts, RB (slV sv) l rx, (GMx gx)] ++ F) w
 | .inr (a, er), e, w => e = .returned (.tuple #[.slice none 0 0, Iv a, Iv er]) ∧ Sat ([RB (slV sv) l rx, (GMx gx)] ++ F) w
theorem c_scan {sv : SV} {l : Bs} (hl : l.length ≤ 1099511627776) : ∀ F w, Sat ([RB (slV sv) l rx] ++ F) w → Calls prog 43 [slV sv].toArray w fun e w' => ∃ (b : Nat) (so : SV), e = .returned (.func (.func 70) #[] #[ptr b]) ∧ Sat ([Cl b 22 [slV so], BY so l, RB (slV sv) l rx] ++ F) w' := by
 intro F
 refine calls_of_WC (fn := f43) func43 rfl rfl (Sr (WL_ef (ef_box (v := slV sv) (l := [slV sv]) rfl rfl) fun b1 => Av .nilFunc (Ny (Lo b1 0 (slV sv) isAgg22 Z0 rfl (WL_callX (Δ0 := [RB (slV sv) l rx]) (Δ := fun so2 => [BY so2 l, RB (slV sv) l rx]) (v := fun so2 => slV so2) call69 rfl (c_clone hl) (K1 Z1) ?_)))))
 rintro so2
 refine S1 b1 0 (slV so2) sizeOf22 Z2 (.put .done) (Ny (WL_rd (rd_makeFunc (us := []) (vs := [ptr b1]) rfl rfl) (Av (.func (.func 70) [].toArray [ptr b1].toArray) (Nr ?_))))
 exact At_ret1 results43 (fun w q => ⟨b1, so2, rfl, q.mono (E3 Z0 Z0 Z0)⟩)
theorem c_tokens {sv : SV} {l : Bs} {K : Nat} {r : List Tk ⊕ (Int × Int)} (hl : l.length ≤ 1048576) (hK : tokensB l K = some r) : ∀ F w, Sat ([RB (slV sv) l rx, (GMx gx)] ++ F) w → Calls prog 26 [slV sv].toArray w (TokR gx rx sv l F r) := by
 intro F
 refine calls_of_WCM (fn := f26) func26 rfl rfl (Sr (WL_ef (ef_alloc (l := [.slice none 0 0]) zeroValue43 rfl) fun b1 => WL_ef (ef_alloc (l := [Iv 0]) zeroValue3 rfl) fun b2 => WL_ef (ef_alloc (l := [Iv 0]) zeroValue27 rfl) fun b3 => Ny (WL_ef (ef_alloc (l := [.slice none 0 0]) zeroValue43 rfl) fun b4 => Nz (Mv (slV sv) (WL_callX (α := Nat × SV) (Δ0 := [RB (slV sv) l rx]) (Δ := fun x => [Cl x.1 22 [slV x.2], BY x.2 l, RB (slV sv) l rx]) (v := fun x => .func (.func 70) #[] #[ptr x.1]) call43 rfl (fun F w q => (c_scan (sv := sv) (l := l) (by omega) F w q).mono fun e w' h => by obtain ⟨b, so, h, q⟩ := h; exact ⟨(b, so), h, q⟩) (K1 Z4) ?_)))))
 rintro ⟨cb5, so6⟩
 refine Nt (WC_block (WC_range (gf := 70) (caps := #[ptr cb5]) rfl call70 ?_))
 intro fn D L w9 s9
 obtain ⟨R0, hR0, s9⟩ : ∃ R0 : Loop, R0 = _ ∧ Sat (Blk L (.loop R0) :: Blk D (.deferred (some [])) :: Cl cb5 22 [slV so6] :: BY so6 l :: RB (slV sv) l rx :: Cl b4 43 [.slice none 0 0] :: Cl b3 27 [Iv 0] :: Cl b2 3 [Iv 0] :: Cl b1 43 [.slice none 0 0] :: (GMx gx) :: F) w9 := ⟨_, rfl, s9⟩
 have hY : YS L (JT L D b1 b2 b3 b4 R0) (JX L D b1 b2 b3 R0) := by
  constructor
  rotate_left 1
  · intro ts a er F9 w8 her s8
    obtain ⟨s0, s8⟩ := sep_ex s8
    replace s8 := ent_all [_, _, _, _, _, _, _] F9 _ s8
    refine yield_round (n := 22) (ρ := upd (upd (upd (upd (upd (upd (upd (upd (ini [slV sv]) 2 (ptr b1)) 3 (ptr b2)) 4 (ptr b3)) 5 (ptr b4)) 8 (slV sv)) 9 (.func (.func 70) [].toArray [ptr cb5].toArray)) 10 (.agg #[Iv 0, Tx [], Iv a, Iv 0])) 11 (Iv er)) s8 (by rw [hR0]; rfl) (by rw [hR0]; exact (fold2 _ _ _ _ _).trans (by rw [tmps_upd, tmps_upd]; rfl)) ?_
    rw [hR0]
    dsimp only
    rw [← hR0]
    refine WCR_seq (WCR_region (fun _ _ _ h => h) rfl (WL_ef (ef_alloc (l := [Iv 0, Tx [], Iv 0, Iv 0]) zeroValue47 rfl) fun b10 => Sa b10 0 [Iv 0, Tx [], Iv a, Iv 0] sizeOf47 Z0 (.put (.put (.put (.put .done)))) (WL_nil (At_thenRN (WCR_region (fun _ _ _ h => h) rfl (Av (Iv er) (WL_nil (At_assign Z1 (by rw [hR0]) (WCR_block (WCR_seq (WCR_seq (WCR_region (fun _ _ _ h => h) rfl (Mv (Iv er) (Bo (Iv er) (Iv 0) (.bool true) eqg_int (by rw [binOp_neq, bne_iff_ne.2 her]) (WL_nil (At_thenRN (WCR_true rfl (WCR_seq (WCR_draw [4, 5] [Cl b10 47 [Iv 0, Tx [], Iv a, Iv 0]] mixed (fun _ _ _ h => h) rfl (Dt 0 rfl rfl (Q0 (K1 Z1)) (Rf b10 0 fa47_2 rfl) (Dt 1 rfl rfl (Q0 (K1 Z1)) (Rl b10 2 (Iv a) isAgg3 rfl Z0 rfl) (Dp 2 rfl rfl (fun _ => Q0 (K1 Z1)) (Rm (Iv er) rfl) (WD_ef0 3 (by kernel_rfl) rfl rfl rfl (ef_store (b := b1) (o := 0) (v := .slice none 0 0) (vs := [.slice none 0 0]) sizeOf43 rfl rfl rfl rfl rfl Z3 (.put .done)) (fun _ => Q0 (K1 Z2)) (WD_ef0 4 (by kernel_rfl) rfl rfl rfl (ef_store (b := b2) (o := 0) (v := Iv a) (vs := [Iv a]) sizeOf3 rfl rfl rfl rfl rfl Z4 (.put .done)) (late_vac (i := 4) (by kernel_rfl) (by decide)) (WD_ef0 5 (by kernel_rfl) rfl rfl rfl (ef_store (b := b3) (o := 0) (v := Iv er) (vs := [Iv er]) sizeOf27 rfl rfl rfl rfl rfl (.succ Z4) (.put .done)) (late_vac (i := 5) (by kernel_rfl) (by decide)) ?_)))))))))))))))))))))))))
    refine WD_done (by kernel_rfl) ?_ _
    refine At_thenRN (WCR_ret (At_thenRR (At_blockR ?_)))
    refine At_roundR Z3 fun w q => ⟨rfl, ?_⟩
    exact all_ent [_, _, _, _, _] F9 _ (Sat.mono q (En Z0 (En Z4 (En Z2 (En Z1 (En Z0 D3))))))
  intro ts t F9 w8 hts s8
  obtain ⟨s0, s8⟩ := sep_ex s8
  replace s8 := ent_all [_, _, _, _, _, _, _] F9 _ s8
  refine yield_round (n := 22) (ρ := upd (upd (upd (upd (upd (upd (upd (upd (ini [slV sv]) 2 (ptr b1)) 3 (ptr b2)) 4 (ptr b3)) 5 (ptr b4)) 8 (slV sv)) 9 (.func (.func 70) [].toArray [ptr cb5].toArray)) 10 (.agg #[Iv t.kind, Tx t.text, Iv t.pos, Iv t.en])) 11 (Iv 0)) s8 (by rw [hR0]; rfl) (by rw [hR0]; exact (fold2 _ _ _ _ _).trans (by rw [tmps_upd, tmps_upd]; rfl)) ?_
  rw [hR0]
  dsimp only
  rw [← hR0]
  refine WCR_seq (WCR_region (fun _ _ _ h => h) rfl (WL_ef (ef_alloc (l := [Iv 0, Tx [], Iv 0, Iv 0]) zeroValue47 rfl) fun b7 => Sa b7 0 [Iv t.kind, Tx t.text, Iv t.pos, Iv t.en] sizeOf47 Z0 (.put (.put (.put (.put .done)))) (WL_nil (At_thenRN (WCR_region (fun _ _ _ h => h) rfl (Av (Iv 0) (WL_nil (At_assign Z1 (by rw [hR0]) (WCR_block (WCR_seq (WCR_seq (WCR_region (fun _ _ _ h => h) rfl (Mv (Iv 0) (Bo (Iv 0) (Iv 0) (.bool false) eqg_int rfl (WL_nil (At_thenRN (WCR_false rfl (WCR_skip (At_thenRN (WCR_region (fun _ _ _ h => h) rfl (Lo b4 0 (slV s0) isAgg43 (.succ (.succ Z4)) rfl (WL_rd (rd_loadN (b := b7) (o := 0) (vs := [Iv t.kind, Tx t.text, Iv t.pos, Iv t.en]) isAgg47 sizeOf47 rfl Z1 rfl rfl) (WL_ef (ef_buildSlice (E := 47) (vs := [(0, .agg #[Iv t.kind, Tx t.text, Iv t.pos, Iv t.en])]) (l := [Iv t.kind, Tx t.text, Iv t.pos, Iv t.en]) rfl (bs43_1 _ _ _ _ )) fun b8 => WL_ef (ef_appTok (ts := ts) (t1 := t) rfl rfl (.cons (.succ (.succ (.succ (.succ Z4)))) (K1 Z0)) (by omega)) fun s9 => S1 b4 0 (slV s9) sizeOf43 (.succ (.succ (.succ Z4))) (.put .done) (WL_nil (At_blockN ?_)))))))))))))))))))))))))
  refine At_roundN Z2 fun w q => ⟨rfl, ?_⟩
  have e0 : ({ ({ R0 with state := .busy } : Loop) with state := .ready, pending := none } : Loop) = R0 := by rw [hR0]
  replace q : Sat (Blk L (.loop ({ ({ R0 with state := .busy } : Loop) with state := .ready, pending := none } : Loop)) :: _) w := q
  rw [e0] at q
  exact ent_ex (A := fun s : SV => All [Blk L (.loop R0), Blk D (.deferred (some [])), Cl b1 43 [.slice none 0 0], Cl b2 3 [Iv 0], Cl b3 27 [Iv 0], Cl b4 43 [slV s], TK s (ts ++ [t])]) s9 F9 _ (all_ent [_, _, _, _, _, _, _] F9 _ (Sat.mono q (En Z0 (En Z3 (En Z3 (En Z3 (En Z3 (En Z0 (En Z0 D1)))))))))
 refine (c_scanAny (gx := gx) (so := so6) (l := l) (cb := cb5) (by omega) hY hK (RB (slV sv) l rx :: F) w9 (Sat.mono s9 ?_)).mono (range_post (by rw [hR0]) (by rw [hR0]) ?_ ?_)
 · refine tk_nil.trans (Ent.trans (Sels.ent (Δ := [Blk L (.loop R0), Blk D (.deferred (some [])), Cl b1 43 [.slice none 0 0], Cl b2 3 [Iv 0], Cl b3 27 [Iv 0], Cl b4 43 [slV (none, 0, 0)], TK (none, 0, 0) []]) (.cons Z1 (.cons Z1 (.cons (.succ (.succ (.succ Z4))) (K4 (.succ (.succ Z4)) (.succ Z4) Z4 Z0))))) ?_)
   refine Ent.trans (fun h q => ent_ex (A := fun s : SV => All [Blk L (.loop R0), Blk D (.deferred (some [])), Cl b1 43 [.slice none 0 0], Cl b2 3 [Iv 0], Cl b3 27 [Iv 0], Cl b4 43 [slV s], TK s []]) (none, 0, 0) _ h (all_ent [_, _, _, _, _, _, _] _ h q)) ?_
   exact En Z1 (E4 Z1 Z2 Z0 Z0)
 · rintro ts s1 rfl
   refine At_blockN (At_then (Sr (Lo b4 0 (slV s1) isAgg43 (.succ Z4) rfl (S1 b1 0 (slV s1) sizeOf43 Z2 (.put .done) (S1 b2 0 (Iv 0) sizeOf3 Z3 (.put .done) (S1 b3 0 (Iv 0) sizeOf27 Z4 (.put .done) (Nr ?_)))))))
   exact At_retM3 results26 isAgg43 isAgg3 isAgg27 rfl rfl rfl (K4 Z4 Z2 Z1 Z0) (fun w q => ⟨s1, rfl, q.mono (En Z2 (En Z3 (En Z2 D2)))⟩)
 rintro a er rfl
 refine At_blockR (At_thenR ?_)
 exact At_retM3 results26 isAgg43 isAgg3 isAgg27 rfl rfl rfl (K4 Z0 Z0 Z0 Z0) (fun w q => ⟨rfl, q.mono (E2 Z1 Z0)⟩)
end
end Go.Proofs

namespace Go.Proofs
open Go.Px Tryz
section
variable {pb tb cap K : Nat} {L : List Tk} {g : NT → M PT} {gx : GX} {rx : RX}
theorem drop_tok {L : List Tk} {i : Nat} {t : Tk} (h : L[i]? = some t) : L.drop i = t :: L.drop (i + 1) := by
 obtain ⟨h1, h2⟩ := List.getElem?_eq_some_iff.1 h
 rw [List.drop_eq_getElem_cons h1, h2]
theorem depthL_first (most : Int) : ∀ (L : List Tk) (i : Nat) (n d f : Int), ((depthL most L i n d f).2 = f ∨ ∃ j : Nat, (depthL most L i n d f).2 = j ∧ i ≤ j ∧ j < i + L.length)
 | [], i, n, d, f => .inl rfl
 | t :: L, i, n, d, f => by
  rw [depthL]
  have ih := depthL_first most L (i + 1) (max 0 (n + turnT t)) (max d (max 0 (n + turnT t))) (bif decide (max 0 (n + turnT t) > most) && decide (f < 0) then (i : Int) else f)
  simp only [List.length_cons]
  rcases ih with h | ⟨j, h, h1, h2⟩
  · rw [h]
    cases (decide (max 0 (n + turnT t) > most) && decide (f < 0)) with
    | true => exact .inr ⟨i, rfl, by omega, by omega⟩
    | false => exact .inl rfl
  exact .inr ⟨j, h, by omega, by omega⟩
theorem tk_tb {s : SV} {ts : List Tk} {F : List HP} {w : World} (hne : ts ≠ []) (q : Sat (TK s ts :: F) w) : ∃ b cap, s = (some ⟨b, 0, none⟩, ts.length, cap) ∧ Sat (TB b ts :: F) w := by
 obtain ⟨h1, h2, d, ⟨hl, hv⟩, hr⟩ := id q
 obtain ⟨a, n, c⟩ := s
 rcases hv with ⟨e, hm⟩ | ⟨b, cap, sp, e, hmc, hcm, hcs, hblk⟩
 · exact absurd (List.eq_nil_of_length_eq_zero hm) hne
 simp only [slV, Value.slice.injEq] at e
 obtain ⟨rfl, rfl, rfl⟩ := e
 exact ⟨b, c, rfl, h1, h2, d, ⟨sp, hblk⟩, hr⟩
def WholeR (gx : GX) (rx : RX) (sv : SV) (l : Bs) (F : List HP) : PT ⊕ (Int × Int) → Ending → World → Prop
 | .inl x, e, w => ∃ sn : SV, e = .returned (.tuple #[.agg #[slV sn], Iv 0, Iv 0]) ∧ Sat ([NL (layK x.size [(x, -1)] []) sn, RB (slV sv) l rx, (GMx gx)] ++ F) w
 | .inr (a, er), e, w => e = .returned (.tuple #[.agg #[.slice none 0 0], Iv a, Iv er]) ∧ Sat ([RB (slV sv) l rx, (GMx gx)] ++ F) w
theorem c_run {tb cap K N kind : Nat} {L : List Tk} (hk : kind ≤ 2) (hK : K ≤ 274877906944) (hL : LOK L) {r : Except Int (PT × List Tk)} (H : runM K (gr K N) kind L = some r) (hsz : ∀ x ts, r = .ok (x, ts) → x.size ≤ 1099511627776) :
 ∀ F w, Sat (TB tb L :: F) w → Calls prog 53 [Sl tb L.length cap, Iv kind].toArray w (RunR tb L r F) := by
 have : kind = 0 ∨ kind = 1 ∨ kind = 2 := by omega
 rcases this with rfl | rfl | rfl
 · exact c_run0 hK (cg_gr hK N) hL H hsz
 · exact c_run1 hK (cg_gr hK N) hL H hsz
 exact c_run2 hK (cg_gr hK N) hL H hsz
theorem c_depth {tb cap : Nat} {L : List Tk} {most : Int} {R : Int × Int} (hL : L.length ≤ 1099511627776) (hR : depthL most L 0 0 0 (-1) = R) : ∀ F w, Sat ([TB tb L] ++ F) w → Calls prog 49 [Sl tb L.length cap, Iv most].toArray w fun e w' => e = .returned (.tuple #[Iv R.1, Iv R.2]) ∧ Sat ([TB tb L] ++ F) w' := by
 intro F
 refine calls_of_WC (fn := f49) func49 rfl rfl (Sr (Av (Iv 0) (Av (Iv 0) (Ny (Av (Iv 0) (Av (Iv 0) (Av (Iv (-1)) (Nz (Mv (Sl tb L.length cap) (WL_rd (rd_lenS (a := some ⟨tb, 0, none⟩) (k := L.length) runUnderlying43 rfl) (Mv (Iv 0) (Nt (WC_block (WC_loopF (α := Nat × Int × Int × Int) (fun x => depthL most (L.drop x.1) x.1 x.2.1 x.2.2.1 x.2.2.2 = R ∧ x.1 ≤ L.length ∧ 0 ≤ x.2.1 ∧ x.2.1 ≤ x.1 ∧ -1 ≤ x.2.2.2) (fun x => [(1, Iv most), (6, Iv x.2.1), (7, Iv x.2.2.1), (8, Iv x.2.2.2), (11, Sl tb L.length cap), (12, Iv L.length), (13, Iv x.1)]) (fun x => TB tb L :: F) (fun x => L.length - x.1) (0, 0, 0, (-1)) (show depthL most (L.drop 0) 0 0 0 (-1) = R ∧ 0 ≤ L.length ∧ 0 ≤ 0 ∧ 0 ≤ 0 ∧ -1 ≤ (-1) from ⟨by rw [List.drop_zero]; exact hR, by omega, by omega, by omega, by omega⟩) ⟨rfl, rfl, rfl, rfl, rfl, rfl, rfl, trivial⟩ (E1 Z0) ?_))))))))))))))
 rintro ⟨i, n, d, f⟩ σ hpre
 replace hpre : depthL most (L.drop i) i n d f = R ∧ i ≤ L.length ∧ 0 ≤ n ∧ n ≤ i ∧ -1 ≤ f := hpre
 obtain ⟨hq, hp1, hp2, hp3, hp4⟩ := id hpre
 show WC prog _ _ _ (upds σ [(1, Iv most), (6, Iv n), (7, Iv d), (8, Iv f), (11, Sl tb L.length cap), (12, Iv L.length), (13, Iv i)]) _ (TB tb L :: F)
 refine Sr (Bo (Iv i) (Iv L.length) (.bool (decide (((i : Nat) : Int) < ((L.length : Nat) : Int)))) eqg_int (binOp_lss _ _ _ _) (Nt (WC_seq ?_)))
 cases hb1 : (decide (((i : Nat) : Int) < ((L.length : Nat) : Int)))
 · have hil : L.length ≤ i := by have h9 := hb1; simp only [decide_eq_false_iff_not] at h9; omega
   rw [List.drop_eq_nil_of_le hil, depthL] at hq
   refine WC_false rfl (WC_exit (At_thenX (At_loopX (At_blockX (At_then (Sr (Mv (Iv d) (Mv (Iv f) (Av (Iv d) (Av (Iv f) (Nr ?_)))))))))))
   subst hq
   exact At_ret2 results49 (fun w q => ⟨rfl, q.mono (E1 Z0)⟩)
 have hil : i < L.length := by have h9 := hb1; simp only [decide_eq_true_eq] at h9; omega
 obtain ⟨t, ht⟩ : ∃ t, L[i]? = some t := ⟨L[i]'hil, List.getElem?_eq_getElem _⟩
 rw [drop_tok ht, depthL] at hq
 have htb := turn_bound t
 refine WC_true rfl (WC_skip (At_then (WC_seq (WC_block (Sr (Mv (Iv i) (WL_rd (rd_tokAddr (j := i) rfl rfl (rfl) (by omega)) (WL_rd (rd_tok (L := L) (j := i) rfl Z0 ht) (WL_ef (ef_alloc (l := [Iv 0, Tx [], Iv 0, Iv 0]) zeroValue47 rfl) fun b2 => Av (Iv i) (Sa b2 0 [Iv t.kind, Tx t.text, Iv t.pos, Iv t.en] sizeOf47 Z0 (.put (.put (.put (.put .done)))) (Ny (Mv (Iv n) (WL_rd (rd_loadN (b := b2) (o := 0) (vs := [Iv t.kind, Tx t.text, Iv t.pos, Iv t.en]) isAgg47 sizeOf47 rfl Z0 rfl rfl) (WL_callQ (Δ := []) (v := Iv (turnT t)) call81 rfl (c_turn t) (.nil) (Bo (Iv n) (Iv (turnT t)) (Iv (n + (turnT t))) eqg_int (bin_add (by omega) (by omega)) (WL_rd (rd_maxI (a := 0) (b := n + (turnT t)) (c := max 0 (n + (turnT t))) rfl rfl rfl) (Av (Iv (max 0 (n + (turnT t)))) (Ny (Mv (Iv d) (Mv (Iv (max 0 (n + (turnT t)))) (WL_rd (rd_maxI (a := d) (b := max 0 (n + (turnT t))) (c := max d (max 0 (n + (turnT t)))) rfl rfl rfl) (Av (Iv (max d (max 0 (n + (turnT t))))) (Ny (Mv (Iv (max 0 (n + (turnT t)))) (Mv (Iv most) (Bo (Iv (max 0 (n + (turnT t)))) (Iv most) (.bool (decide ((max 0 (n + (turnT t))) > most))) eqg_int (binOp_gtr _ _ _ _) (Mv (.bool (decide ((max 0 (n + (turnT t))) > most))) ?_)))))))))))))))))))))))))))
 cases hb3 : (decide ((max 0 (n + (turnT t))) > most))
 · have g1 : decide (max 0 (n + turnT t) > most) = false := hb3
   simp only [g1, Bool.true_and, Bool.false_and, cond_false] at hq
   refine Pa false 29 (Pa false 29 (Pk false (Nt (WC_false rfl (WC_skip (At_blockN (At_then (WC_region (Bo (Iv i) (Iv 1) (Iv (((i : Nat) : Int) + 1)) eqg_int (bin_add (by omega) (by omega)) (Mv (Iv (((i : Nat) : Int) + 1)) (WL_nil ?_)))))))))))
   exact At_againF ((i + 1), (max 0 (n + turnT t)), (max d (max 0 (n + turnT t))), f) (show depthL most (L.drop (i + 1)) (i + 1) (max 0 (n + turnT t)) (max d (max 0 (n + turnT t))) f = R ∧ (i + 1) ≤ L.length ∧ 0 ≤ (max 0 (n + turnT t)) ∧ (max 0 (n + turnT t)) ≤ (i + 1) ∧ -1 ≤ f from ⟨hq, by omega, by omega, by omega, by omega⟩) ⟨rfl, rfl, rfl, rfl, rfl, rfl, congrArg (Value.int .i64) (show ((i : Nat) : Int) + 1 = ((i + 1 : Nat) : Int) by omega), trivial⟩ (En Z1 D1) (show L.length - (i + 1) < L.length - i by omega)
 have g1 : decide (max 0 (n + turnT t) > most) = true := hb3
 simp only [g1, Bool.true_and, Bool.false_and, cond_false] at hq
 refine Ta true 29 (Mv (Iv f) (Ta true 29 (Bo (Iv f) (Iv 0) (.bool (decide (f < 0))) eqg_int (binOp_lss _ _ _ _) (Pk true (Nt ?_)))))
 cases hb4 : (decide (f < 0))
 · have g2 : decide (f < 0) = false := hb4
   simp only [g2, cond_true, cond_false] at hq
   refine WC_false rfl (WC_skip (At_blockN (At_then (WC_region (Bo (Iv i) (Iv 1) (Iv (((i : Nat) : Int) + 1)) eqg_int (bin_add (by omega) (by omega)) (Mv (Iv (((i : Nat) : Int) + 1)) (WL_nil ?_)))))))
   exact At_againF ((i + 1), (max 0 (n + turnT t)), (max d (max 0 (n + turnT t))), f) (show depthL most (L.drop (i + 1)) (i + 1) (max 0 (n + turnT t)) (max d (max 0 (n + turnT t))) f = R ∧ (i + 1) ≤ L.length ∧ 0 ≤ (max 0 (n + turnT t)) ∧ (max 0 (n + turnT t)) ≤ (i + 1) ∧ -1 ≤ f from ⟨hq, by omega, by omega, by omega, by omega⟩) ⟨rfl, rfl, rfl, rfl, rfl, rfl, congrArg (Value.int .i64) (show ((i : Nat) : Int) + 1 = ((i + 1 : Nat) : Int) by omega), trivial⟩ (En Z1 D1) (show L.length - (i + 1) < L.length - i by omega)
 have g2 : decide (f < 0) = true := hb4
 simp only [g2, cond_true, cond_false] at hq
 refine Tr (Mv (Iv i) (Av (Iv i) (WL_nil (At_blockN (At_then (WC_region (Bo (Iv i) (Iv 1) (Iv (((i : Nat) : Int) + 1)) eqg_int (bin_add (by omega) (by omega)) (Mv (Iv (((i : Nat) : Int) + 1)) (WL_nil ?_)))))))))
 exact At_againF ((i + 1), (max 0 (n + turnT t)), (max d (max 0 (n + turnT t))), ((i : Nat) : Int)) (show depthL most (L.drop (i + 1)) (i + 1) (max 0 (n + turnT t)) (max d (max 0 (n + turnT t))) ((i : Nat) : Int) = R ∧ (i + 1) ≤ L.length ∧ 0 ≤ (max 0 (n + turnT t)) ∧ (max 0 (n + turnT t)) ≤ (i + 1) ∧ -1 ≤ ((i : Nat) : Int) from ⟨hq, by omega, by omega, by omega, by omega⟩) ⟨rfl, rfl, rfl, rfl, rfl, rfl, congrArg (Value.int .i64) (show ((i : Nat) : Int) + 1 = ((i + 1 : Nat) : Int) by omega), trivial⟩ (En Z1 D1) (show L.length - (i + 1) < L.length - i by omega)
end
end Go.Proofs

namespace Go.Proofs
open Go.Px Tryz
section
variable {pb tb cap K : Nat} {L : List Tk} {g : NT → M PT} {gx : GX} {rx : RX}
section
variable {P : Program} {n : Nat} {ρ : Env} {Γ Γ' : List HP} {fn : Func} {R : Ending → World → Prop} {a t u : Tmp} {T : TypeId} {b m : Nat} {E : TypeId} {l : List Value}
theorem At_retCVV (hres : fn.results = #[.cell a T, .tmp t, .tmp u]) (hA : ∀ w, (isAgg T).run P w = .ok true w) (hS : ∀ w, (sizeOf T).run P w = .ok m w) (hx : evE fn.ntmps ρ (.tmp a) = ptr b) (hs : Sel Γ (Cl b E l) Γ') (hm : l.length = m)
 (hR : ∀ w, Sat Γ w → R (.returned (.tuple #[.agg l.toArray, evE fn.ntmps ρ (.tmp t), evE fn.ntmps ρ (.tmp u)])) w) : At .ret (bodyQ P fn R) ρ [] Γ :=
 At_ret rfl (fun w s => by
  have := run_cell (P := P) (w := w) (tmps := (actOf fn.ntmps ρ []).tmps) (a := a) hA hS (by rw [actOf_getD]; exact hx) (Sat.blk (s.mono hs.ent)) hm
  have hx' : (actOf fn.ntmps ρ []).tmps.getD a undef = ptr b := by rw [actOf_getD]; exact hx
  have ht' : (actOf fn.ntmps ρ []).tmps.getD t undef = evE fn.ntmps ρ (.tmp t) := by rw [actOf_getD]; rfl
  have hu' : (actOf fn.ntmps ρ []).tmps.getD u undef = evE fn.ntmps ρ (.tmp u) := by rw [actOf_getD]; rfl
  rw [hx'] at this
  rw [Array.getD_eq_getD_getElem?] at hx' ht' hu'
  simp only [results, hres]
  simp [asAddr] at this
  simp [hx', ht', hu', asAddr, this]) hR
theorem rd_ldPos {d : Option Tmp} {ty : TypeId} {pos : String} {af : Array Edge} {gd : Option (Nat × Bool)} {x : Operand} {j tb : Nat} {L : List Tk} {t : Tk} (hA : ∀ w, (isAgg T).run P w = .ok false w) (hx : evE n ρ x = .pointer (some ⟨tb, 0 + j * 4 + 2, none⟩)) (hs : Sel Γ (TB tb L) Γ') (ht : L[j]? = some t) :
 Rd P n ρ ⟨d, .load T x, ty, pos, af, gd⟩ Γ (Iv t.pos) := fun w s => by
 obtain ⟨sp, s1⟩ := sep_ex (s.mono hs.ent)
 have hcells : ∀ (L : List Tk) (j : Nat), L[j]? = some t → (L.flatMap tkCells ++ sp)[j * 4 + 2]? = some (Iv t.pos) := by
  intro L
  induction L with
  | nil => intro j h; simp at h
  | cons u L ih =>
   intro j h
   cases j with
   | zero => simp only [List.getElem?_cons_zero, Option.some.injEq] at h; subst h; rfl
   | succ j =>
    simp only [List.getElem?_cons_succ] at h
    have h9 := ih j h
    rw [List.flatMap_cons, List.append_assoc, List.getElem?_append_right (by simp [tkCells]; omega)]
    rw [show (j + 1) * 4 + 2 - (tkCells u).length = j * 4 + 2 by simp [tkCells]; omega]
    exact h9
 have := rd_load1' (P := P) (n := n) (ρ := ρ) (Γ := Cl tb 47 (L.flatMap tkCells ++ sp) :: Γ') (d := d) (ty := ty) (pos := pos) (af := af) (gd := gd) (b := tb) (o := 0 + j * 4 + 2) (v := Iv t.pos) hA hx Z0 (by rw [show 0 + j * 4 + 2 = j * 4 + 2 by omega]; exact hcells L j ht) w s1
 exact this
end
theorem c_tokensE {sv : SV} {l : Bs} {K : Nat} {a er : Int} (hl : l.length ≤ 1048576) (hK : tokensB l K = some (.inr (a, er))) : ∀ F w, Sat ([RB (slV sv) l rx, (GMx gx)] ++ F) w → Calls prog 26 [slV sv].toArray w fun e w' => e = .returned (.tuple #[.slice none 0 0, Iv a, Iv er]) ∧ Sat ([RB (slV sv) l rx, (GMx gx)] ++ F) w' := c_tokens hl hK
theorem c_runOk {tb cap K N kind : Nat} {L : List Tk} {x : PT} {ts' : List Tk} (hk : kind ≤ 2) (hK : K ≤ 274877906944) (hL : LOK L) (H : runM K (gr K N) kind L = some (.ok (x, ts'))) (hsz : x.size ≤ 1099511627776) :
 ∀ F w, Sat ([TB tb L] ++ F) w → Calls prog 53 [Sl tb L.length cap, Iv kind].toArray w fun e w' => ∃ sn : SV, e = .returned (.tuple #[.agg #[slV sn], Iv 0, .bool true]) ∧ Sat ([NL (layK x.size [(x, -1)] []) sn, TB tb L] ++ F) w' :=
 fun F w s => c_run hk hK hL H (fun y ts h => by cases h; exact hsz) F w s
theorem c_runErr {tb cap K N kind : Nat} {L : List Tk} {a : Int} (hk : kind ≤ 2) (hK : K ≤ 274877906944) (hL : LOK L) (H : runM K (gr K N) kind L = some (.error a)) :
 ∀ F w, Sat ([TB tb L] ++ F) w → Calls prog 53 [Sl tb L.length cap, Iv kind].toArray w fun e w' => e = .returned (.tuple #[.agg #[.slice none 0 0], Iv a, .bool false]) ∧ Sat ([TB tb L] ++ F) w' :=
 fun F w s => c_run hk hK hL H (fun y ts h => by cases h) F w s
theorem c_tokensT {sv : SV} {l : Bs} {K : Nat} {ts : List Tk} (hl : l.length ≤ 1048576) (hK : tokensB l K = some (.inl ts)) (hne : ts ≠ []) : ∀ F w, Sat ([RB (slV sv) l rx, (GMx gx)] ++ F) w → Calls prog 26 [slV sv].toArray w fun e w' => ∃ x : Nat × Nat, e = .returned (.tuple #[Sl x.1 ts.length x.2, Iv 0, Iv 0]) ∧ Sat ([TB x.1 ts, RB (slV sv) l rx, (GMx gx)] ++ F) w' := fun F w s => by
 refine (c_tokens hl hK F w s).mono fun e w' q => ?_
 obtain ⟨sv, e, q⟩ := q
 obtain ⟨b, cap, e2, q2⟩ := tk_tb hne q
 subst e2
 exact ⟨(b, cap), e, q2⟩
theorem c_whole_tok {sv : SV} {l : Bs} {K N kind : Nat} (hl : l.length ≤ 1048576) {a er : Int} (her : er ≠ 0) (hT : tokensB l K = some (.inr (a, er))) : ∀ F w, Sat ([RB (slV sv) l rx, (GMx gx)] ++ F) w → Calls prog 33 [slV sv, Iv kind].toArray w (WholeR gx rx sv l F (.inr (a, er))) := by
 intro F
 refine calls_of_WC (fn := f33) func33 rfl rfl (Sr (WL_ef (ef_alloc (l := [.slice none 0 0]) zeroValue26 rfl) fun b1 => Av (Iv 0) (Av (Iv 0) (Ny (Mv (slV sv) (WL_callQ (Δ := [RB (slV sv) l rx, (GMx gx)]) (v := .tuple #[.slice none 0 0, Iv a, Iv er]) call26 rfl (c_tokensE hl hT) (K2 Z1 Z1) (Mv (.tuple #[.slice none 0 0, Iv a, Iv er]) (Xt (.slice none 0 0) (Xt (Iv a) (Xt (Iv er) (Av (.slice none 0 0) (Av (Iv a) (Av (Iv er) (Nz (Mv (Iv er) (Bo (Iv er) (Iv 0) (.bool true) eqg_int (by rw [binOp_neq, bne_iff_ne.2 her]) (Nt (Ts (WL_rd (rd_build (vs := []) (v := .agg #[.slice none 0 0]) rfl (bd26_z )) (Mv (Iv a) (Mv (Iv er) (Sa b1 0 [.slice none 0 0] sizeOf26 Z2 (.put .done) (Av (Iv a) (Av (Iv er) (Nr (At_thenR ?_))))))))))))))))))))))))))
 exact At_retCVV results33 isAgg26 sizeOf26 rfl Z0 rfl (fun w q => ⟨rfl, q.mono (En Z1 (En Z1 D1))⟩)
theorem c_whole_deep {sv : SV} {l : Bs} {K N kind : Nat} (hl : l.length ≤ 1048576) {ts : List Tk} {j : Nat} {t : Tk} (hT : tokensB l K = some (.inl ts)) (hne : ts ≠ []) (htl : ts.length ≤ 1099511627776) (hf : decide ((depthL 64 ts 0 0 0 (-1)).2 ≥ 0) = true) (hj : (depthL 64 ts 0 0 0 (-1)).2 = (j : Int)) (hjl : j < ts.length) (ht : ts[j]? = some t) : ∀ F w, Sat ([RB (slV sv) l rx, (GMx gx)] ++ F) w → Calls prog 33 [slV sv, Iv kind].toArray w (WholeR gx rx sv l F (.inr (t.pos, 5))) := by
 intro F
 refine calls_of_WC (fn := f33) func33 rfl rfl (Sr (WL_ef (ef_alloc (l := [.slice none 0 0]) zeroValue26 rfl) fun b1 => Av (Iv 0) (Av (Iv 0) (Ny (Mv (slV sv) (WL_callX (α := Nat × Nat) (Δ0 := [RB (slV sv) l rx, (GMx gx)]) (Δ := fun ⟨tb2, cap3⟩ => [TB tb2 ts, RB (slV sv) l rx, (GMx gx)]) (v := fun ⟨tb2, cap3⟩ => .tuple #[Sl tb2 ts.length cap3, Iv 0, Iv 0]) call26 rfl (c_tokensT hl hT hne) (K2 Z1 Z1) ?_))))))
 rintro ⟨tb2, cap3⟩
 refine Mv (.tuple #[Sl tb2 ts.length cap3, Iv 0, Iv 0]) (Xt (Sl tb2 ts.length cap3) (Xt (Iv 0) (Xt (Iv 0) (Av (Sl tb2 ts.length cap3) (Av (Iv 0) (Av (Iv 0) (Nz (Mv (Iv 0) (Bo (Iv 0) (Iv 0) (.bool false) eqg_int rfl (Nt (Fz (Mv (Sl tb2 ts.length cap3) (WL_callQ (Δ := [TB tb2 ts]) (v := .tuple #[Iv ((depthL 64 ts 0 0 0 (-1)).1), Iv ((depthL 64 ts 0 0 0 (-1)).2)]) call49 rfl (c_depth (L := ts) (cap := cap3) htl rfl) (K1 Z0) (Mv (.tuple #[Iv ((depthL 64 ts 0 0 0 (-1)).1), Iv ((depthL 64 ts 0 0 0 (-1)).2)]) (Xt (Iv ((depthL 64 ts 0 0 0 (-1)).1)) (Xt (Iv ((depthL 64 ts 0 0 0 (-1)).2)) (Av (Iv ((depthL 64 ts 0 0 0 (-1)).1)) (Av (Iv ((depthL 64 ts 0 0 0 (-1)).2)) (Ny (Mv (Iv ((depthL 64 ts 0 0 0 (-1)).2)) (Bo (Iv (depthL 64 ts 0 0 0 (-1)).2) (Iv 0) (.bool true) eqg_int (by rw [binOp_geq, hf]) (Nt (WC_true rfl (WC_seq (WC_draw [7, 8] [TB tb2 ts] mixed (Dt 0 rfl rfl (Q0 (K1 Z0)) (rd_build (vs := []) (v := .agg #[.slice none 0 0]) rfl (bd26_z )) (Dt 1 rfl rfl (Q0 (K1 Z0)) (Rm (Sl tb2 ts.length cap3) rfl) (Dt 2 rfl rfl (Q0 (K1 Z0)) (Rm (Iv ((depthL 64 ts 0 0 0 (-1)).2)) rfl) (Dt 3 rfl rfl (Q0 (K1 Z0)) (rd_tokAddr (j := j) rfl rfl hj hjl) (Dt 4 rfl rfl (Q0 (K1 Z0)) (Rf tb2 (0 + j * 4) fa47_2 rfl) (Dt 5 rfl rfl (Q0 (K1 Z0)) (rd_ldPos (j := j) (L := ts) (t := t) isAgg3 rfl Z0 ht) (WD_ef0 6 (by kernel_rfl) rfl rfl rfl (ef_store (b := b1) (o := 0) (v := .agg #[.slice none 0 0]) (vs := [.slice none 0 0]) sizeOf26 rfl rfl rfl rfl rfl Z3 (.put .done)) (fun _ => Q0 (K1 Z1)) (WD_rd 7 (by kernel_rfl) rfl rfl rfl (Ra (Iv t.pos) rfl) (late_vac (i := 7) (by kernel_rfl) (by decide)) (WD_rd 8 (by kernel_rfl) rfl rfl rfl (Ra (Iv 5) rfl) (late_vac (i := 8) (by kernel_rfl) (by decide)) ?_))))))))))))))))))))))))))))))))))
 refine WD_done (by kernel_rfl) ?_ _
 refine At_then (WC_ret (At_thenR ?_))
 exact At_retCVV results33 isAgg26 sizeOf26 rfl Z0 rfl (fun w q => ⟨rfl, q.mono (En Z2 (En Z2 D2))⟩)
theorem c_whole_ok {sv : SV} {l : Bs} {K N kind : Nat} (hl : l.length ≤ 1048576) {ts ts' : List Tk} {x : PT} (hk : kind ≤ 2) (hK : K ≤ 274877906944) (hT : tokensB l K = some (.inl ts)) (hne : ts ≠ []) (htl : ts.length ≤ 1099511627776) (hf : decide ((depthL 64 ts 0 0 0 (-1)).2 ≥ 0) = false) (hLok : LOK ts) (hR : runM K (gr K N) kind ts = some (.ok (x, ts'))) (hsz : x.size ≤ 1099511627776) : ∀ F w, Sat ([RB (slV sv) l rx, (GMx gx)] ++ F) w → Calls prog 33 [slV sv, Iv kind].toArray w (WholeR gx rx sv l F (.inl x)) := by
 intro F
 refine calls_of_WC (fn := f33) func33 rfl rfl (Sr (WL_ef (ef_alloc (l := [.slice none 0 0]) zeroValue26 rfl) fun b1 => Av (Iv 0) (Av (Iv 0) (Ny (Mv (slV sv) (WL_callX (α := Nat × Nat) (Δ0 := [RB (slV sv) l rx, (GMx gx)]) (Δ := fun ⟨tb2, cap3⟩ => [TB tb2 ts, RB (slV sv) l rx, (GMx gx)]) (v := fun ⟨tb2, cap3⟩ => .tuple #[Sl tb2 ts.length cap3, Iv 0, Iv 0]) call26 rfl (c_tokensT hl hT hne) (K2 Z1 Z1) ?_))))))
 rintro ⟨tb2, cap3⟩
 refine Mv (.tuple #[Sl tb2 ts.length cap3, Iv 0, Iv 0]) (Xt (Sl tb2 ts.length cap3) (Xt (Iv 0) (Xt (Iv 0) (Av (Sl tb2 ts.length cap3) (Av (Iv 0) (Av (Iv 0) (Nz (Mv (Iv 0) (Bo (Iv 0) (Iv 0) (.bool false) eqg_int rfl (Nt (Fz (Mv (Sl tb2 ts.length cap3) (WL_callQ (Δ := [TB tb2 ts]) (v := .tuple #[Iv ((depthL 64 ts 0 0 0 (-1)).1), Iv ((depthL 64 ts 0 0 0 (-1)).2)]) call49 rfl (c_depth (L := ts) (cap := cap3) htl rfl) (K1 Z0) (Mv (.tuple #[Iv ((depthL 64 ts 0 0 0 (-1)).1), Iv ((depthL 64 ts 0 0 0 (-1)).2)]) (Xt (Iv ((depthL 64 ts 0 0 0 (-1)).1)) (Xt (Iv ((depthL 64 ts 0 0 0 (-1)).2)) (Av (Iv ((depthL 64 ts 0 0 0 (-1)).1)) (Av (Iv ((depthL 64 ts 0 0 0 (-1)).2)) (Ny (Mv (Iv ((depthL 64 ts 0 0 0 (-1)).2)) (Bo (Iv (depthL 64 ts 0 0 0 (-1)).2) (Iv 0) (.bool false) eqg_int (by rw [binOp_geq, hf]) (Nt (Fx (Mv (Sl tb2 ts.length cap3) (Mv (Iv kind) (WL_callX (Δ0 := [TB tb2 ts]) (Δ := fun sn4 => [NL (layK x.size [(x, -1)] []) sn4, TB tb2 ts]) (v := fun sn4 => .tuple #[.agg #[slV sn4], Iv 0, .bool true]) call53 rfl (c_runOk hk hK hLok hR hsz) (K1 Z0) ?_))))))))))))))))))))))))))
 rintro sn4
 refine Mv (.tuple #[.agg #[slV sn4], Iv 0, .bool true]) (Xt (.agg #[slV sn4]) (Xt (Iv 0) (Xt (.bool true) (WL_ef (ef_alloc (l := [.slice none 0 0]) zeroValue26 rfl) fun b5 => Sa b5 0 [slV sn4] sizeOf26 Z0 (.put .done) (Av (Iv 0) (Av (.bool true) (Nz (Mv (.bool true) (WL_rd (rd_not (b := true) rfl) (Nt (Fx (WL_rd (rd_loadN (b := b5) (o := 0) (vs := [slV sn4]) isAgg26 sizeOf26 rfl Z0 rfl rfl) (Sa b1 0 [slV sn4] sizeOf26 (.succ Z4) (.put .done) (Av (Iv 0) (Av (Iv 0) (Nr ?_))))))))))))))))
 exact At_retCVV results33 isAgg26 sizeOf26 rfl Z0 rfl (fun w q => ⟨sn4, rfl, q.mono (En Z2 (En Z3 (En Z3 D3)))⟩)
theorem c_whole_err {sv : SV} {l : Bs} {K N kind : Nat} (hl : l.length ≤ 1048576) {ts : List Tk} {a : Int} (hk : kind ≤ 2) (hK : K ≤ 274877906944) (hT : tokensB l K = some (.inl ts)) (hne : ts ≠ []) (htl : ts.length ≤ 1099511627776) (hf : decide ((depthL 64 ts 0 0 0 (-1)).2 ≥ 0) = false) (hLok : LOK ts) (hR : runM K (gr K N) kind ts = some (.error a)) : ∀ F w, Sat ([RB (slV sv) l rx, (GMx gx)] ++ F) w → Calls prog 33 [slV sv, Iv kind].toArray w (WholeR gx rx sv l F (.inr (a, 6))) := by
 intro F
 refine calls_of_WC (fn := f33) func33 rfl rfl (Sr (WL_ef (ef_alloc (l := [.slice none 0 0]) zeroValue26 rfl) fun b1 => Av (Iv 0) (Av (Iv 0) (Ny (Mv (slV sv) (WL_callX (α := Nat × Nat) (Δ0 := [RB (slV sv) l rx, (GMx gx)]) (Δ := fun ⟨tb2, cap3⟩ => [TB tb2 ts, RB (slV sv) l rx, (GMx gx)]) (v := fun ⟨tb2, cap3⟩ => .tuple #[Sl tb2 ts.length cap3, Iv 0, Iv 0]) call26 rfl (c_tokensT hl hT hne) (K2 Z1 Z1) ?_))))))
 rintro ⟨tb2, cap3⟩
 refine Mv (.tuple #[Sl tb2 ts.length cap3, Iv 0, Iv 0]) (Xt (Sl tb2 ts.length cap3) (Xt (Iv 0) (Xt (Iv 0) (Av (Sl tb2 ts.length cap3) (Av (Iv 0) (Av (Iv 0) (Nz (Mv (Iv 0) (Bo (Iv 0) (Iv 0) (.bool false) eqg_int rfl (Nt (Fz (Mv (Sl tb2 ts.length cap3) (WL_callQ (Δ := [TB tb2 ts]) (v := .tuple #[Iv ((depthL 64 ts 0 0 0 (-1)).1), Iv ((depthL 64 ts 0 0 0 (-1)).2)]) call49 rfl (c_depth (L := ts) (cap := cap3) htl rfl) (K1 Z0) (Mv (.tuple #[Iv ((depthL 64 ts 0 0 0 (-1)).1), Iv ((depthL 64 ts 0 0 0 (-1)).2)]) (Xt (Iv ((depthL 64 ts 0 0 0 (-1)).1)) (Xt (Iv ((depthL 64 ts 0 0 0 (-1)).2)) (Av (Iv ((depthL 64 ts 0 0 0 (-1)).1)) (Av (Iv ((depthL 64 ts 0 0 0 (-1)).2)) (Ny (Mv (Iv ((depthL 64 ts 0 0 0 (-1)).2)) (Bo (Iv (depthL 64 ts 0 0 0 (-1)).2) (Iv 0) (.bool false) eqg_int (by rw [binOp_geq, hf]) (Nt (Fx (Mv (Sl tb2 ts.length cap3) (Mv (Iv kind) (WL_callQ (Δ := [TB tb2 ts]) (v := .tuple #[.agg #[.slice none 0 0], Iv a, .bool false]) call53 rfl (c_runErr hk hK hLok hR) (K1 Z0) (Mv (.tuple #[.agg #[.slice none 0 0], Iv a, .bool false]) (Xt (.agg #[.slice none 0 0]) (Xt (Iv a) (Xt (.bool false) (WL_ef (ef_alloc (l := [.slice none 0 0]) zeroValue26 rfl) fun b4 => Sa b4 0 [.slice none 0 0] sizeOf26 Z0 (.put .done) (Av (Iv a) (Av (.bool false) (Nz (Mv (.bool false) (WL_rd (rd_not (b := false) rfl) (Nt (Ts ?_))))))))))))))))))))))))))))))))))))))
 refine WL_rd (rd_build (vs := []) (v := .agg #[.slice none 0 0]) rfl (bd26_z )) (Mv (Iv a) (Sa b1 0 [.slice none 0 0] sizeOf26 Z4 (.put .done) (Av (Iv a) (Av (Iv 6) (Nr (At_thenR ?_))))))
 exact At_retCVV results33 isAgg26 sizeOf26 rfl Z0 rfl (fun w q => ⟨rfl, q.mono (En Z3 (En Z3 D3))⟩)
theorem c_whole {sv : SV} {l : Bs} {K N kind : Nat} {r : PT ⊕ (Int × Int)} (hl : l.length ≤ 1048576) (hk : kind ≤ 2) (hK : K ≤ 274877906944) (hOK : ∀ ts, tokensB l K = some (.inl ts) → LOK ts ∧ ts.length ≤ 1099511627776)
 (hE : ∀ a er, tokensB l K = some (.inr (a, er)) → er ≠ 0) (H : wholeB l K N kind = some r) (hsz : ∀ x, r = .inl x → x.size ≤ 1099511627776) :
 ∀ F w, Sat ([RB (slV sv) l rx, (GMx gx)] ++ F) w → Calls prog 33 [slV sv, Iv kind].toArray w (WholeR gx rx sv l F r) := by
 rw [wholeB] at H
 rcases hT : tokensB l K with _ | ts | ⟨a, er⟩
 rotate_left 2
 · rw [hT] at H; cases H
   exact c_whole_tok (N := N) hl (hE a er hT) hT
 · rw [hT] at H; cases H
 rw [hT] at H
 obtain ⟨hLok, htl⟩ := hOK ts hT
 have hne : ts ≠ [] := by
  obtain ⟨_, _, t, h, _⟩ := hLok
  rintro rfl; cases h
 dsimp only at H
 by_cases hf : 0 ≤ (depthL 64 ts 0 0 0 (-1)).2
 rotate_left 1
 · rw [decide_eq_false hf, cond_false] at H
   rcases hR : runM K (gr K N) kind ts with _ | a | ⟨x, ts'⟩
   · rw [hR] at H; cases H
   · rw [hR] at H; cases H
     exact c_whole_err hl hk hK hT hne htl (decide_eq_false hf) hLok hR
   rw [hR] at H; cases H
   exact c_whole_ok hl hk hK hT hne htl (decide_eq_false hf) hLok hR (hsz x rfl)
 rw [decide_eq_true hf, cond_true] at H
 rcases depthL_first 64 ts 0 0 0 (-1) with h9 | ⟨j, hj, h1, h2⟩
 · omega
 rw [Nat.zero_add] at h2
 have ht : ts[j]? = some ts[j] := List.getElem?_eq_getElem h2
 rw [hj, Int.toNat_natCast, ht, Option.getD_some] at H
 cases H
 exact c_whole_deep (N := N) hl hT hne htl (decide_eq_true hf) hj h2 ht
theorem c_program_inl {sv : SV} {l : Bs} {x : PT} (hc : ∀ F w, Sat ([RB (slV sv) l rx, (GMx gx)] ++ F) w → Calls prog 33 [slV sv, Iv 0].toArray w (WholeR gx rx sv l F (.inl x))) : ∀ F w, Sat ([RB (slV sv) l rx, (GMx gx)] ++ F) w → Calls prog 16 [slV sv].toArray w (WholeR gx rx sv l F (.inl x)) := by
 intro F
 refine calls_of_WC (fn := f16) func16 rfl rfl (Sr (WL_ef (ef_alloc (l := [.slice none 0 0]) zeroValue26 rfl) fun b1 => Av (Iv 0) (Av (Iv 0) (Ny (Mv (slV sv) (WL_callX (Δ0 := [RB (slV sv) l rx, (GMx gx)]) (Δ := fun sn2 => [NL (layK x.size [(x, -1)] []) sn2, RB (slV sv) l rx, (GMx gx)]) (v := fun sn2 => .tuple #[.agg #[slV sn2], Iv 0, Iv 0]) call33 rfl (fun F w s => hc F w s) (K2 Z1 Z1) ?_))))))
 rintro sn2
 refine Xt (.agg #[slV sn2]) (Xt (Iv 0) (Xt (Iv 0) (Sa b1 0 [slV sn2] sizeOf26 Z3 (.put .done) (Av (Iv 0) (Av (Iv 0) (Nr ?_))))))
 exact At_retCVV results16 isAgg26 sizeOf26 rfl Z0 rfl (fun w q => ⟨sn2, rfl, q.mono (En Z1 (En Z1 (En Z1 D1)))⟩)
theorem c_program_inr {sv : SV} {l : Bs} {a er : Int} (hc : ∀ F w, Sat ([RB (slV sv) l rx, (GMx gx)] ++ F) w → Calls prog 33 [slV sv, Iv 0].toArray w (WholeR gx rx sv l F (.inr (a, er)))) : ∀ F w, Sat ([RB (slV sv) l rx, (GMx gx)] ++ F) w → Calls prog 16 [slV sv].toArray w (WholeR gx rx sv l F (.inr (a, er))) := by
 intro F
 refine calls_of_WC (fn := f16) func16 rfl rfl (Sr (WL_ef (ef_alloc (l := [.slice none 0 0]) zeroValue26 rfl) fun b1 => Av (Iv 0) (Av (Iv 0) (Ny (Mv (slV sv) (WL_callQ (Δ := [RB (slV sv) l rx, (GMx gx)]) (v := .tuple #[.agg #[.slice none 0 0], Iv a, Iv er]) call33 rfl (fun F w s => hc F w s) (K2 Z1 Z1) (Xt (.agg #[.slice none 0 0]) (Xt (Iv a) (Xt (Iv er) (Sa b1 0 [.slice none 0 0] sizeOf26 Z2 (.put .done) (Av (Iv a) (Av (Iv er) (Nr ?_)))))))))))))
 exact At_retCVV results16 isAgg26 sizeOf26 rfl Z0 rfl (fun w q => ⟨rfl, q.mono (En Z1 (En Z1 D1))⟩)
theorem c_program {sv : SV} {l : Bs} {K N : Nat} {r : PT ⊕ (Int × Int)} (hl : l.length ≤ 1048576) (hK : K ≤ 274877906944) (hOK : ∀ ts, tokensB l K = some (.inl ts) → LOK ts ∧ ts.length ≤ 1099511627776)
 (hE : ∀ a er, tokensB l K = some (.inr (a, er)) → er ≠ 0) (H : wholeB l K N 0 = some r) (hsz : ∀ x, r = .inl x → x.size ≤ 1099511627776) :
 ∀ F w, Sat ([RB (slV sv) l rx, (GMx gx)] ++ F) w → Calls prog 16 [slV sv].toArray w (WholeR gx rx sv l F r) := by
 have hc := c_whole (gx := gx) (rx := rx) (sv := sv) hl (by decide) hK hOK hE H hsz
 rcases r with x | ⟨a, er⟩
 · exact c_program_inl hc
 exact c_program_inr hc
theorem c_expr_inl {sv : SV} {l : Bs} {x : PT} (hc : ∀ F w, Sat ([RB (slV sv) l rx, (GMx gx)] ++ F) w → Calls prog 33 [slV sv, Iv 1].toArray w (WholeR gx rx sv l F (.inl x))) : ∀ F w, Sat ([RB (slV sv) l rx, (GMx gx)] ++ F) w → Calls prog 22 [slV sv].toArray w (WholeR gx rx sv l F (.inl x)) := by
 intro F
 refine calls_of_WC (fn := f22) func22 rfl rfl (Sr (WL_ef (ef_alloc (l := [.slice none 0 0]) zeroValue26 rfl) fun b1 => Av (Iv 0) (Av (Iv 0) (Ny (Mv (slV sv) (WL_callX (Δ0 := [RB (slV sv) l rx, (GMx gx)]) (Δ := fun sn2 => [NL (layK x.size [(x, -1)] []) sn2, RB (slV sv) l rx, (GMx gx)]) (v := fun sn2 => .tuple #[.agg #[slV sn2], Iv 0, Iv 0]) call33 rfl (fun F w s => hc F w s) (K2 Z1 Z1) ?_))))))
 rintro sn2
 refine Xt (.agg #[slV sn2]) (Xt (Iv 0) (Xt (Iv 0) (Sa b1 0 [slV sn2] sizeOf26 Z3 (.put .done) (Av (Iv 0) (Av (Iv 0) (Nr ?_))))))
 exact At_retCVV results22 isAgg26 sizeOf26 rfl Z0 rfl (fun w q => ⟨sn2, rfl, q.mono (En Z1 (En Z1 (En Z1 D1)))⟩)
theorem c_expr_inr {sv : SV} {l : Bs} {a er : Int} (hc : ∀ F w, Sat ([RB (slV sv) l rx, (GMx gx)] ++ F) w → Calls prog 33 [slV sv, Iv 1].toArray w (WholeR gx rx sv l F (.inr (a, er)))) : ∀ F w, Sat ([RB (slV sv) l rx, (GMx gx)] ++ F) w → Calls prog 22 [slV sv].toArray w (WholeR gx rx sv l F (.inr (a, er))) := by
 intro F
 refine calls_of_WC (fn := f22) func22 rfl rfl (Sr (WL_ef (ef_alloc (l := [.slice none 0 0]) zeroValue26 rfl) fun b1 => Av (Iv 0) (Av (Iv 0) (Ny (Mv (slV sv) (WL_callQ (Δ := [RB (slV sv) l rx, (GMx gx)]) (v := .tuple #[.agg #[.slice none 0 0], Iv a, Iv er]) call33 rfl (fun F w s => hc F w s) (K2 Z1 Z1) (Xt (.agg #[.slice none 0 0]) (Xt (Iv a) (Xt (Iv er) (Sa b1 0 [.slice none 0 0] sizeOf26 Z2 (.put .done) (Av (Iv a) (Av (Iv er) (Nr ?_)))))))))))))
 exact At_retCVV results22 isAgg26 sizeOf26 rfl Z0 rfl (fun w q => ⟨rfl, q.mono (En Z1 (En Z1 D1))⟩)
theorem c_expr {sv : SV} {l : Bs} {K N : Nat} {r : PT ⊕ (Int × Int)} (hl : l.length ≤ 1048576) (hK : K ≤ 274877906944) (hOK : ∀ ts, tokensB l K = some (.inl ts) → LOK ts ∧ ts.length ≤ 1099511627776)
 (hE : ∀ a er, tokensB l K = some (.inr (a, er)) → er ≠ 0) (H : wholeB l K N 1 = some r) (hsz : ∀ x, r = .inl x → x.size ≤ 1099511627776) :
 ∀ F w, Sat ([RB (slV sv) l rx, (GMx gx)] ++ F) w → Calls prog 22 [slV sv].toArray w (WholeR gx rx sv l F r) := by
 have hc := c_whole (gx := gx) (rx := rx) (sv := sv) hl (by decide) hK hOK hE H hsz
 rcases r with x | ⟨a, er⟩
 · exact c_expr_inl hc
 exact c_expr_inr hc
theorem c_type_inl {sv : SV} {l : Bs} {x : PT} (hc : ∀ F w, Sat ([RB (slV sv) l rx, (GMx gx)] ++ F) w → Calls prog 33 [slV sv, Iv 2].toArray w (WholeR gx rx sv l F (.inl x))) : ∀ F w, Sat ([RB (slV sv) l rx, (GMx gx)] ++ F) w → Calls prog 24 [slV sv].toArray w (WholeR gx rx sv l F (.inl x)) := by
 intro F
 refine calls_of_WC (fn := f24) func24 rfl rfl (Sr (WL_ef (ef_alloc (l := [.slice none 0 0]) zeroValue26 rfl) fun b1 => Av (Iv 0) (Av (Iv 0) (Ny (Mv (slV sv) (WL_callX (Δ0 := [RB (slV sv) l rx, (GMx gx)]) (Δ := fun sn2 => [NL (layK x.size [(x, -1)] []) sn2, RB (slV sv) l rx, (GMx gx)]) (v := fun sn2 => .tuple #[.agg #[slV sn2], Iv 0, Iv 0]) call33 rfl (fun F w s => hc F w s) (K2 Z1 Z1) ?_))))))
 rintro sn2
 refine Xt (.agg #[slV sn2]) (Xt (Iv 0) (Xt (Iv 0) (Sa b1 0 [slV sn2] sizeOf26 Z3 (.put .done) (Av (Iv 0) (Av (Iv 0) (Nr ?_))))))
 exact At_retCVV results24 isAgg26 sizeOf26 rfl Z0 rfl (fun w q => ⟨sn2, rfl, q.mono (En Z1 (En Z1 (En Z1 D1)))⟩)
theorem c_type_inr {sv : SV} {l : Bs} {a er : Int} (hc : ∀ F w, Sat ([RB (slV sv) l rx, (GMx gx)] ++ F) w → Calls prog 33 [slV sv, Iv 2].toArray w (WholeR gx rx sv l F (.inr (a, er)))) : ∀ F w, Sat ([RB (slV sv) l rx, (GMx gx)] ++ F) w → Calls prog 24 [slV sv].toArray w (WholeR gx rx sv l F (.inr (a, er))) := by
 intro F
 refine calls_of_WC (fn := f24) func24 rfl rfl (Sr (WL_ef (ef_alloc (l := [.slice none 0 0]) zeroValue26 rfl) fun b1 => Av (Iv 0) (Av (Iv 0) (Ny (Mv (slV sv) (WL_callQ (Δ := [RB (slV sv) l rx, (GMx gx)]) (v := .tuple #[.agg #[.slice none 0 0], Iv a, Iv er]) call33 rfl (fun F w s => hc F w s) (K2 Z1 Z1) (Xt (.agg #[.slice none 0 0]) (Xt (Iv a) (Xt (Iv er) (Sa b1 0 [.slice none 0 0] sizeOf26 Z2 (.put .done) (Av (Iv a) (Av (Iv er) (Nr ?_)))))))))))))
 exact At_retCVV results24 isAgg26 sizeOf26 rfl Z0 rfl (fun w q => ⟨rfl, q.mono (En Z1 (En Z1 D1))⟩)
theorem c_type {sv : SV} {l : Bs} {K N : Nat} {r : PT ⊕ (Int × Int)} (hl : l.length ≤ 1048576) (hK : K ≤ 274877906944) (hOK : ∀ ts, tokensB l K = some (.inl ts) → LOK ts ∧ ts.length ≤ 1099511627776)
 (hE : ∀ a er, tokensB l K = some (.inr (a, er)) → er ≠ 0) (H : wholeB l K N 2 = some r) (hsz : ∀ x, r = .inl x → x.size ≤ 1099511627776) :
 ∀ F w, Sat ([RB (slV sv) l rx, (GMx gx)] ++ F) w → Calls prog 24 [slV sv].toArray w (WholeR gx rx sv l F r) := by
 have hc := c_whole (gx := gx) (rx := rx) (sv := sv) hl (by decide) hK hOK hE H hsz
 rcases r with x | ⟨a, er⟩
 · exact c_type_inl hc
 exact c_type_inr hc
end
end Go.Proofs
