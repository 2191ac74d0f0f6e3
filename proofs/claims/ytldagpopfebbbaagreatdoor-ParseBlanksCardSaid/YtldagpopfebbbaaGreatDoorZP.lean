/- A tree's nodes read whole, and their kids. -/
import Derived.Test.YtldagpopfebbbaaGreatDoorZO
import Derived.Test.YtldagpopfebbbaaGreatDoorZN
set_option linter.unusedVariables false
set_option linter.unusedSimpArgs false
set_option linter.unusedSectionVars false
namespace Go.Proofs
open Go.Px Tryz
theorem star_at {α β : Type} {A : α → β → HP} {Γ : List HP} {a : α} {b : β} : ∀ {xs : List α} {bs : List β} {j : Nat}, xs[j]? = some a → bs[j]? = some b → Ent (Star A xs bs :: Γ) (A a b :: Γ)
 | [], _, _, h, _ => by simp at h
 | _ :: _, [], _, _, h => by simp at h
 | x :: xs, y :: bs, 0, h, h' => by
  simp only [List.getElem?_cons_zero, Option.some.injEq] at h h'
  subst h h'
  exact fun h s => sep_tail (fun h s => sep_drop s) (ent_all [A x y, Star A xs bs] Γ h s)
 | x :: xs, y :: bs, j + 1, h, h' => by
  simp only [List.getElem?_cons_succ] at h h'
  exact fun h9 s => star_at h h' h9 (sep_drop (ent_all [A x y, Star A xs bs] Γ h9 s))
theorem row_all {f : FN} {s : SV} {sp : List Value} : ∀ {fs : List FN} {ss : List SV} {j : Nat}, fs[j]? = some f → ss[j]? = some s → (((nrows fs ss).flatten ++ sp).drop (j * 5)).take 5 = nrow f s
 | [], _, _, h, _ => by simp at h
 | _ :: _, [], _, _, h => by simp at h
 | f0 :: fs, s0 :: ss, 0, h, h' => by
  simp only [List.getElem?_cons_zero, Option.some.injEq] at h h'
  subst h h'
  rfl
 | f0 :: fs, s0 :: ss, j + 1, h, h' => by
  simp only [List.getElem?_cons_succ] at h h'
  have h9 := row_all (sp := sp) h h'
  rw [← h9]
  show ((((nrow f0 s0 :: nrows fs ss).flatten) ++ sp).drop ((j + 1) * 5)).take 5 = _
  rw [List.flatten_cons, List.append_assoc, show (j + 1) * 5 = (nrow f0 s0).length + j * 5 by simp [nrow]; omega, List.drop_append, List.drop_eq_nil_of_le (by omega), List.nil_append, Nat.add_sub_cancel_left]
theorem ka_open {Γ Γ' : List HP} {fs : List FN} {ss : List SV} {j : Nat} {f : FN} {s : SV} (hs : Sel Γ (Star KA fs ss) Γ') (hf : fs[j]? = some f) (hj : ss[j]? = some s) : ∀ h, sep Γ h → s.2.1 = f.kids.length ∧ (f.kids ≠ [] → ∃ kb kc, s = (some ⟨kb, 0, none⟩, f.kids.length, kc)) := fun h q => by
 obtain ⟨_, _, _, p, _⟩ := star_at hf hj h (hs.ent h q)
 obtain ⟨s1, s2, s3⟩ := s
 obtain ⟨_, ⟨e, h0⟩ | ⟨b, cap, sp, e, _⟩⟩ := p
 · have e : Value.slice s1 s2 s3 = .slice none 0 0 := e
   cases e
   exact ⟨h0.symm, fun h => absurd (List.eq_nil_of_length_eq_zero h0) h⟩
 have e : Value.slice s1 s2 s3 = .slice (some ⟨b, 0, none⟩) f.kids.length cap := e
 cases e
 exact ⟨rfl, fun _ => ⟨b, _, rfl⟩⟩
section
variable {n : Nat} {ρ : Env} {Γ Γ' : List HP} {d : Option Tmp} {ty : TypeId} {pos : String} {af : Array Edge} {gd : Option (Nat × Bool)} {fs : List FN} {ss : List SV} {j : Nat} {f : FN} {s : SV}
theorem rd_row {x : Operand} {T : TypeId} {b o : Nat} {E : TypeId} {sp : List Value} (hA : ∀ w, (isAgg T).run prog w = .ok true w) (hS : ∀ w, (sizeOf T).run prog w = .ok 5 w) (hx : evE n ρ x = .pointer (some ⟨b, o, none⟩))
 (hs : Sel Γ (Cl b E ((nrows fs ss).flatten ++ sp)) Γ') (hf : fs[j]? = some f) (hj : ss[j]? = some s) (ho : o = j * 5) : Rd prog n ρ ⟨d, .load T x, ty, pos, af, gd⟩ Γ (.agg #[.int .i64 f.kind, .string (bs f.text), .int .i64 f.num, slV s, .int .i64 f.at_]) := by
 subst ho
 exact rd_loadN (vs := nrow f s) hA hS hx hs (row_all hf hj) rfl
theorem rd_lenKids {x : Operand} {T E : TypeId} (hU : ∀ w, (underlying T).run prog w = .ok (.slice E) w) (hx : evE n ρ x = slV s) (hs : Sel Γ (Star KA fs ss) Γ') (hf : fs[j]? = some f) (hj : ss[j]? = some s) :
 Rd prog n ρ ⟨d, .call ⟨.builtin .len, #[x], #[T]⟩, ty, pos, af, gd⟩ Γ (.int .i64 ((f.kids.length : Nat) : Int)) := fun w q =>
 rd_lenSV hU hx (congrArg Int.ofNat (ka_open hs hf hj _ q).1) w q
theorem rd_idxK {x y : Operand} {T E : TypeId} {kb k len cap : Nat} {i : Int} {ik : IntKind} (hU : ∀ w, (underlying T).run prog w = .ok (.slice E) w) (hS : ∀ w, (sizeOf E).run prog w = .ok 1 w)
 (hx : evE n ρ x = slV s) (hk : s = (some ⟨kb, 0, none⟩, len, cap)) (hy : evE n ρ y = .int ik i) (hi : i = (k : Int)) (h1 : k < len) : Rd prog n ρ ⟨d, .indexAddr T x y, ty, pos, af, gd⟩ Γ (.pointer (some ⟨kb, k, none⟩)) := by
 subst hk
 exact rd_idxN hU hS hx hy hi h1 (Nat.mul_one k)
theorem rd_ldKid {x : Operand} {T : TypeId} {kb k m cap : Nat} {c : Int} (hA : ∀ w, (isAgg T).run prog w = .ok false w) (hx : evE n ρ x = .pointer (some ⟨kb, k, none⟩)) (hs : Sel Γ (Star KA fs ss) Γ') (hf : fs[j]? = some f) (hj : ss[j]? = some s)
 (hk : s = (some ⟨kb, 0, none⟩, m, cap)) (hc : f.kids[k]? = some c) : Rd prog n ρ ⟨d, .load T x, ty, pos, af, gd⟩ Γ (.int .i64 c) := fun w q => by
 subst hk
 obtain ⟨h1, h2, d1, p, q2⟩ := star_at hf hj _ (hs.ent _ q)
 obtain ⟨_, ⟨e, h0⟩ | ⟨b, cp, sp, e, _, _, _, p⟩⟩ := p
 · cases e
 cases e
 exact rd_load1' (l := f.kids.map (.int .i64 ·) ++ sp) hA hx .zero (by
  have := (List.getElem?_eq_some_iff.1 hc).1
  rw [List.getElem?_append_left (by simpa using this), List.getElem?_map, hc]; rfl) w ⟨h1, h2, d1, p, q2⟩
theorem rb_len {l : Bs} {rx : RX} {F : List HP} {w : World} {sv : SV} (s : Sat (RB (slV sv) l rx :: F) w) : (sv.2.1 : Int) = ((l.length : Nat) : Int) := by
 obtain ⟨s1, s2, s3⟩ := sv
 rcases rb_cases s with ⟨_, e, rfl, _⟩ | ⟨a, cap, _, e, rfl, _⟩ | ⟨b, o, cap, c, T, fz, _, e, _, _⟩
 · have e : Value.slice s1 s2 s3 = _ := e
   cases e; rfl
 · have e : Value.slice s1 s2 s3 = _ := e
   cases e; rfl
 have e : Value.slice s1 s2 s3 = _ := e
 cases e; rfl
end
end Go.Proofs

namespace Go.Proofs
open Go.Px Tryz
attribute [local semireducible] WL WC At WD
section
variable {n : Nat} {Q : Post} {ρ : Env} {ds : List Deferred} {Γ Γ' F : List HP} {ops : Array Oper} {rest : List Oper} {d : Option Tmp} {t : Tmp} {ty : TypeId} {pos : String} {af : Array Edge} {gd : Option (Nat × Bool)}
theorem WL_callPV {f : FuncId} {g : Operand} {xs : List Operand} {ats : Array TypeId} {args : List Value} {Δ0 Δ : List HP} {v : Value} (hC : ∀ args w, (callFunc f args).run prog w = .ok (.enter f args) w) (hg : evE n ρ g = .func (.func f) #[] #[]) (hx : xs.map (evE n ρ) = args)
 (con : ∀ F w, Sat (Δ0 ++ F) w → Calls prog f args.toArray w fun e w' => e = .returned v ∧ Sat (Δ ++ F) w') (hs : Sels Γ Δ0 F)
 (hok : WL prog n ops rest Q (upd ρ t v) ds (Δ ++ F)) : WL prog n ops (⟨some t, .call ⟨.value g, xs.toArray, ats⟩, ty, pos, af, none⟩ :: rest) Q ρ ds Γ :=
 WL_callV (args := args.toArray) hC hg (by simp [← hx]) (fun w s => con F w (s.mono hs.ent)) (fun v' w h => by obtain ⟨h, s⟩ := h; cases h; exact hok w s) (fun c w h => by cases h.1) (fun w h => by cases h.1)
end
def SameF (f g : FN) : Prop := f.kind = g.kind ∧ f.text = g.text ∧ f.num = g.num ∧ f.kids = g.kids
end Go.Proofs

namespace Go.Proofs
open Go.Px Tryz
section
variable {pb tb cap K : Nat} {L : List Tk} {g : NT → M PT} {gx : GX} {rx : RX}
theorem c_eqI {fs gs : List FN} {ss ts : List SV} {j : Nat} {f g : FN} {s t : SV} (hf : fs[j]? = some f) (hs : ss[j]? = some s) (hg : gs[j]? = some g) (ht : ts[j]? = some t) (he : SameF f g) (hkl : f.kids.length ≤ 200000) : ∀ F w, Sat ([Star KA fs ss, Star KA gs ts] ++ F) w → Calls prog 46 [slV s, slV t].toArray w fun e w' => e = .returned (.bool true) ∧ Sat ([Star KA fs ss, Star KA gs ts] ++ F) w' := by
 intro F
 refine calls_of_WC (fn := f46) func46 rfl rfl (Sr (Av (.bool false) (Nz (Mv (slV s) (WL_rd (rd_lenKids runUnderlying37 rfl Z0 hf hs) (Mv (slV t) (WL_rd (rd_lenKids runUnderlying37 rfl Z1 hg ht) (Bo (Iv f.kids.length) (Iv g.kids.length) (.bool false) eqg_int (by rw [binOp_neq]; rw [he.2.2.2, bne_self_eq_false]) (Nt (Fz (Mv (slV s) (WL_rd (rd_lenKids runUnderlying37 rfl Z0 hf hs) (Mv (Iv 0) (Nt (WC_block (WC_loopF (α := Nat) (fun x => x ≤ f.kids.length) (fun x => [(0, slV s), (1, slV t), (12, Iv f.kids.length), (13, Iv x)]) (fun x => Star KA fs ss :: Star KA gs ts :: F) (fun x => f.kids.length - x) 0 (show 0 ≤ f.kids.length from (Nat.zero_le _)) ⟨rfl, rfl, rfl, rfl, trivial⟩ (E2 Z0 Z0) ?_))))))))))))))))
 rintro i σ hpre
 replace hpre : i ≤ f.kids.length := hpre
 show WC prog _ _ _ (upds σ [(0, slV s), (1, slV t), (12, Iv f.kids.length), (13, Iv i)]) _ (Star KA fs ss :: Star KA gs ts :: F)
 refine Sr (Bo (Iv i) (Iv f.kids.length) (.bool (decide (((i : Nat) : Int) < ((f.kids.length : Nat) : Int)))) eqg_int (binOp_lss _ _ _ _) (Nt (WC_seq ?_)))
 cases hb1 : (decide (((i : Nat) : Int) < ((f.kids.length : Nat) : Int)))
 · refine WC_false rfl (WC_exit (At_thenX (At_loopX (At_blockX (At_then (Sr (Av (.bool true) (Nr ?_))))))))
   exact At_ret1 results46 (fun w q => ⟨rfl, q.mono (E2 Z0 Z0)⟩)
 have hil : i < f.kids.length := by have := of_decide_eq_true hb1; omega
 have hig : i < g.kids.length := by rw [← he.2.2.2]; exact hil
 obtain ⟨c, hc⟩ : ∃ c, f.kids[i]? = some c := ⟨_, List.getElem?_eq_getElem hil⟩
 have hc2 : g.kids[i]? = some c := by rw [← he.2.2.2]; exact hc
 refine WC.know (fun h q => (ka_open Z0 hf hs h q).2 (by intro h; rw [h] at hil; simp at hil)) fun hkn => ?_
 obtain ⟨kb, kc, hsk⟩ := hkn
 refine WC.know (fun h q => (ka_open Z1 hg ht h q).2 (by intro h; rw [h] at hig; simp at hig)) fun hkn => ?_
 obtain ⟨kb2, kc2, htk⟩ := hkn
 refine WC_true rfl (WC_skip (At_then (WC_seq (WC_block (Sr (Mv (Iv i) (Av (Iv i) (Nt (WC_seq (WC_draw [] [Star KA fs ss, Star KA gs ts] mixed (Dt 0 rfl rfl (Q0 (K2 Z0 Z0)) (Rm (slV s) rfl) (Dt 1 rfl rfl (Q0 (K2 Z0 Z0)) (Rm (Iv i) rfl) (Dt 2 rfl rfl (Q0 (K2 Z0 Z0)) (rd_idxK (k := i) runUnderlying37 sizeOf3 rfl hsk rfl rfl hil) (Dt 3 rfl rfl (Q0 (K2 Z0 Z0)) (rd_ldKid isAgg3 rfl Z0 hf hs hsk hc) (Dt 4 rfl rfl (Q0 (K2 Z0 Z0)) (Rm (slV t) rfl) (Dt 5 rfl rfl (Q0 (K2 Z0 Z0)) (Rm (Iv i) rfl) (Dt 6 rfl rfl (Q0 (K2 Z0 Z0)) (rd_idxK (k := i) runUnderlying37 sizeOf3 rfl htk rfl rfl hig) (Dt 7 rfl rfl (Q0 (K2 Z0 Z0)) (rd_ldKid isAgg3 rfl Z1 hg ht htk hc2) (Dt 8 rfl rfl (Q0 (K2 Z0 Z0)) (Rb (Iv c) (Iv c) (.bool false) rfl rfl eqg_int (by rw [binOp_neq]; rw [bne_self_eq_false])) ?_)))))))))))))))))))
 refine WD_done (by kernel_rfl) ?_ _
 refine At_then (WC_false rfl (WC_skip (At_blockN (At_then (WC_region (Bo (Iv i) (Iv 1) (Iv (((i : Nat) : Int) + 1)) eqg_int (bin_add (by omega) (by omega)) (Mv (Iv (((i : Nat) : Int) + 1)) (WL_nil ?_))))))))
 exact At_againF (i + 1) (show (i + 1) ≤ f.kids.length from (by omega)) ⟨rfl, rfl, rfl, rfl, trivial⟩ (E2 Z0 Z0) (show f.kids.length - (i + 1) < f.kids.length - i by omega)
theorem c_sameN {fs gs : List FN} {ss ts : List SV} {j : Nat} {f g : FN} {s t : SV} (hf : fs[j]? = some f) (hs : ss[j]? = some s) (hg : gs[j]? = some g) (ht : ts[j]? = some t) (he : SameF f g) (hkl : f.kids.length ≤ 200000) : ∀ F w, Sat ([Star KA fs ss, Star KA gs ts] ++ F) w → Calls prog 45 [.agg #[Iv f.kind, Tx f.text, Iv f.num, slV s, Iv f.at_], .agg #[Iv g.kind, Tx g.text, Iv g.num, slV t, Iv g.at_]].toArray w fun e w' => e = .returned (.bool true) ∧ Sat ([Star KA fs ss, Star KA gs ts] ++ F) w' := by
 intro F
 refine calls_of_WC (fn := f45) func45 rfl rfl (Sr (WL_ef (ef_box (v := .agg #[Iv f.kind, Tx f.text, Iv f.num, slV s, Iv f.at_]) (l := [Iv f.kind, Tx f.text, Iv f.num, slV s, Iv f.at_]) rfl rfl) fun b1 => WL_ef (ef_box (v := .agg #[Iv g.kind, Tx g.text, Iv g.num, slV t, Iv g.at_]) (l := [Iv g.kind, Tx g.text, Iv g.num, slV t, Iv g.at_]) rfl rfl) fun b2 => Av (.bool false) (Ny (Fa b1 0 fa39_0 (Lo b1 0 (Iv f.kind) isAgg3 Z1 rfl (Fa b2 0 fa39_0 (Lo b2 0 (Iv g.kind) isAgg3 Z0 rfl (Bo (Iv f.kind) (Iv g.kind) (.bool true) eqg_int (by rw [binOp_eql]; rw [he.1, beq_self_eq_true]) (Mv (.bool true) (Ta true 10 (Fa b1 0 fa39_1 (Ta true 10 (Lo b1 1 (Tx f.text) isAgg9 Z1 rfl (Ta true 10 (Fa b2 0 fa39_1 (Ta true 10 (Lo b2 1 (Tx g.text) isAgg9 Z0 rfl (Ta true 10 (Bo (Tx f.text) (Tx g.text) (.bool true) eqg_str (by rw [bin_str_eql, he.2.1, beq_self_eq_true]) (Pk true (Mv (.bool true) (Ta true 17 (Fa b1 0 fa39_2 (Ta true 17 (Lo b1 2 (Iv f.num) isAgg3 Z1 rfl (Ta true 17 (Fa b2 0 fa39_2 (Ta true 17 (Lo b2 2 (Iv g.num) isAgg3 Z0 rfl (Ta true 17 (Bo (Iv f.num) (Iv g.num) (.bool true) eqg_int (by rw [binOp_eql]; rw [he.2.2.1, beq_self_eq_true]) (Pk true (Mv (.bool true) (Ta true 24 (Fa b1 0 fa39_3 (Ta true 24 (Lo b1 3 (slV s) isAgg37 Z1 rfl ?_)))))))))))))))))))))))))))))))))))))
 refine Ta true 24 (Fa b2 0 fa39_3 (Ta true 24 (Lo b2 3 (slV t) isAgg37 Z0 rfl (Ta true 24 (WL_callQ (Δ := [Star KA fs ss, Star KA gs ts]) (v := .bool true) call46 rfl (c_eqI hf hs hg ht he hkl) (K2 Z2 Z2) (Pk true (Av (.bool true) (Nr ?_))))))))
 exact At_ret1 results45 (fun w q => ⟨rfl, q.mono (En Z0 (En Z0 D2))⟩)
theorem c_eqNodes {fs gs : List FN} {y z : Nd} (hy : y.ss.length = fs.length) (hz : z.ss.length = gs.length) (hlen : fs.length = gs.length) (hfl : fs.length ≤ 200000) (hE : ∀ (j : Nat) f g, fs[j]? = some f → gs[j]? = some g → SameF f g) (hfk : ∀ f ∈ fs, f.kids.length ≤ 200000) : ∀ F w, Sat ([NLo fs y, Star KA fs y.ss, NLo gs z, Star KA gs z.ss] ++ F) w → Calls prog 44 [Sl y.b fs.length y.cap, Sl z.b gs.length z.cap, .func (.func 45) [].toArray [].toArray].toArray w fun e w' => e = .returned (.bool true) ∧ Sat ([NLo fs y, Star KA fs y.ss, NLo gs z, Star KA gs z.ss] ++ F) w' := by
 intro F
 refine calls_of_WC (fn := f44) func44 rfl rfl (Sr (Av (.bool false) (Nz (Mv (Sl y.b fs.length y.cap) (WL_rd (rd_lenSV (s := (some ⟨y.b, 0, none⟩, fs.length, y.cap)) runUnderlying24 rfl rfl) (Mv (Sl z.b gs.length z.cap) (WL_rd (rd_lenSV (s := (some ⟨z.b, 0, none⟩, gs.length, z.cap)) runUnderlying24 rfl rfl) (Bo (Iv fs.length) (Iv gs.length) (.bool false) eqg_int (by rw [binOp_neq]; rw [hlen, bne_self_eq_false]) (Nt (Fz (Mv (Sl y.b fs.length y.cap) (WL_rd (rd_lenSV (s := (some ⟨y.b, 0, none⟩, fs.length, y.cap)) runUnderlying24 rfl rfl) (Mv (Iv 0) (Nt (WC_block (WC_loopF (α := Nat) (fun x => x ≤ fs.length) (fun x => [(1, Sl z.b gs.length z.cap), (2, .func (.func 45) [].toArray [].toArray), (15, Sl y.b fs.length y.cap), (16, Iv fs.length), (17, Iv x)]) (fun x => NLo fs y :: Star KA fs y.ss :: NLo gs z :: Star KA gs z.ss :: F) (fun x => fs.length - x) 0 (show 0 ≤ fs.length from (Nat.zero_le _)) ⟨rfl, rfl, rfl, rfl, rfl, trivial⟩ (E4 Z0 Z0 Z0 Z0) ?_))))))))))))))))
 rintro i σ hpre
 replace hpre : i ≤ fs.length := hpre
 show WC prog _ _ _ (upds σ [(1, Sl z.b gs.length z.cap), (2, .func (.func 45) [].toArray [].toArray), (15, Sl y.b fs.length y.cap), (16, Iv fs.length), (17, Iv i)]) _ (NLo fs y :: Star KA fs y.ss :: NLo gs z :: Star KA gs z.ss :: F)
 refine Sr (Bo (Iv i) (Iv fs.length) (.bool (decide (((i : Nat) : Int) < ((fs.length : Nat) : Int)))) eqg_int (binOp_lss _ _ _ _) (Nt (WC_seq ?_)))
 cases hb1 : (decide (((i : Nat) : Int) < ((fs.length : Nat) : Int)))
 · refine WC_false rfl (WC_exit (At_thenX (At_loopX (At_blockX (At_then (Sr (Av (.bool true) (Nr ?_))))))))
   exact At_ret1 results44 (fun w q => ⟨rfl, q.mono (E4 Z0 Z0 Z0 Z0)⟩)
 have hil : i < fs.length := by have := of_decide_eq_true hb1; omega
 have hig : i < gs.length := by omega
 obtain ⟨f, hf⟩ : ∃ f, fs[i]? = some f := ⟨_, List.getElem?_eq_getElem hil⟩
 obtain ⟨g, hg⟩ : ∃ g, gs[i]? = some g := ⟨_, List.getElem?_eq_getElem hig⟩
 obtain ⟨s, hs⟩ := row_some hy hf
 obtain ⟨t, ht⟩ := row_some hz hg
 refine WC_true rfl (WC_skip (At_then (WC_seq (WC_block (Sr (Mv (Iv i) (WL_rd (rd_idxN (j := i) runUnderlying24 sizeOf39 rfl rfl rfl hil rfl) (WL_rd (rd_row isAgg39 sizeOf39 rfl Z0 hf hs rfl) (WL_ef (ef_alloc (l := [Iv 0, Tx [], Iv 0, .slice none 0 0, Iv 0]) zeroValue39 rfl) fun b2 => Av (Iv i) (Sa b2 0 [Iv f.kind, Tx f.text, Iv f.num, slV s, Iv f.at_] sizeOf39 Z0 (.put (.put (.put (.put (.put .done))))) (Ny (Mv (Sl z.b gs.length z.cap) (Mv (Iv i) (WL_rd (rd_idxN (j := i) runUnderlying24 sizeOf39 rfl rfl rfl hig rfl) (WL_rd (rd_row isAgg39 sizeOf39 rfl Z3 hg ht rfl) (WL_ef (ef_alloc (l := [Iv 0, Tx [], Iv 0, .slice none 0 0, Iv 0]) zeroValue39 rfl) fun b3 => Sa b3 0 [Iv g.kind, Tx g.text, Iv g.num, slV t, Iv g.at_] sizeOf39 Z0 (.put (.put (.put (.put (.put .done))))) (Ny (Mv (.func (.func 45) [].toArray [].toArray) (WL_rd (rd_loadN (b := b2) (o := 0) (vs := [Iv f.kind, Tx f.text, Iv f.num, slV s, Iv f.at_]) isAgg39 sizeOf39 rfl Z1 rfl rfl) (WL_rd (rd_loadN (b := b3) (o := 0) (vs := [Iv g.kind, Tx g.text, Iv g.num, slV t, Iv g.at_]) isAgg39 sizeOf39 rfl Z0 rfl rfl) (WL_callPV (Δ0 := [Star KA fs y.ss, Star KA gs z.ss]) (Δ := [Star KA fs y.ss, Star KA gs z.ss]) (v := .bool true) call45 rfl rfl (c_sameN hf hs hg ht (hE i f g hf hg) (hfk f (List.mem_of_getElem? hf))) (K2 Z3 Z4) (WL_rd (rd_not (b := true) rfl) (Nt (WC_false rfl (WC_skip (At_blockN (At_then (WC_region (Bo (Iv i) (Iv 1) (Iv (((i : Nat) : Int) + 1)) eqg_int (bin_add (by omega) (by omega)) (Mv (Iv (((i : Nat) : Int) + 1)) (WL_nil ?_)))))))))))))))))))))))))))))))
 exact At_againF (i + 1) (show (i + 1) ≤ fs.length from (by omega)) ⟨rfl, rfl, rfl, rfl, rfl, trivial⟩ (En Z4 (En Z0 (En Z3 (En Z0 D2)))) (show fs.length - (i + 1) < fs.length - i by omega)
theorem c_eqNil : ∀ F w, Sat ([] ++ F) w → Calls prog 44 [.slice none 0 0, .slice none 0 0, .func (.func 45) [].toArray [].toArray].toArray w fun e w' => e = .returned (.bool true) ∧ Sat ([] ++ F) w' := by
 intro F
 refine calls_of_WC (fn := f44) func44 rfl rfl (Sr (Av (.bool false) (Nz (Mv (.slice none 0 0) (WL_rd (rd_lenSV (s := (none, 0, 0)) runUnderlying24 rfl rfl) (Mv (.slice none 0 0) (WL_rd (rd_lenSV (s := (none, 0, 0)) runUnderlying24 rfl rfl) (Bo (Iv 0) (Iv 0) (.bool false) eqg_int (by rw [binOp_neq]; rfl) (Nt (Fz (Mv (.slice none 0 0) (WL_rd (rd_lenSV (s := (none, 0, 0)) runUnderlying24 rfl rfl) (Mv (Iv 0) (Nt (WC_block (WC_loopF (α := Unit) (fun x => True) (fun x => [(1, .slice none 0 0), (2, .func (.func 45) [].toArray [].toArray), (15, .slice none 0 0), (16, Iv 0), (17, Iv 0)]) (fun x => F) (fun x => 0) () (show True from trivial) ⟨rfl, rfl, rfl, rfl, rfl, trivial⟩ E0 ?_))))))))))))))))
 rintro u σ hpre
 replace hpre : True := hpre
 show WC prog _ _ _ (upds σ [(1, .slice none 0 0), (2, .func (.func 45) [].toArray [].toArray), (15, .slice none 0 0), (16, Iv 0), (17, Iv 0)]) _ (F)
 refine Sr (Bo (Iv 0) (Iv 0) (.bool false) eqg_int (by rw [binOp_lss]; rfl) (Nt (WC_seq (WC_false rfl (WC_exit (At_thenX (At_loopX (At_blockX (At_then (Sr (Av (.bool true) (Nr ?_))))))))))))
 exact At_ret1 results44 (fun w q => ⟨rfl, q.mono (E0)⟩)
theorem c_same {fs gs : List FN} {y z : Nd} (hy : y.ss.length = fs.length) (hz : z.ss.length = gs.length) (hlen : fs.length = gs.length) (hfl : fs.length ≤ 200000) (hE : ∀ (j : Nat) f g, fs[j]? = some f → gs[j]? = some g → SameF f g) (hfk : ∀ f ∈ fs, f.kids.length ≤ 200000) : ∀ F w, Sat ([NLo fs y, Star KA fs y.ss, NLo gs z, Star KA gs z.ss] ++ F) w → Calls prog 27 [.agg #[Sl y.b fs.length y.cap], .agg #[Sl z.b gs.length z.cap]].toArray w fun e w' => e = .returned (.bool true) ∧ Sat ([NLo fs y, Star KA fs y.ss, NLo gs z, Star KA gs z.ss] ++ F) w' := by
 intro F
 refine calls_of_WC (fn := f27) func27 rfl rfl (Sr (WL_ef (ef_box (v := .agg #[Sl y.b fs.length y.cap]) (l := [Sl y.b fs.length y.cap]) rfl rfl) fun b1 => WL_ef (ef_box (v := .agg #[Sl z.b gs.length z.cap]) (l := [Sl z.b gs.length z.cap]) rfl rfl) fun b2 => Av (.bool false) (Ny (Fa b1 0 fa26_0 (Lo b1 0 (Sl y.b fs.length y.cap) isAgg24 Z1 rfl (Fa b2 0 fa26_0 (Lo b2 0 (Sl z.b gs.length z.cap) isAgg24 Z0 rfl (WL_callQ (Δ := [NLo fs y, Star KA fs y.ss, NLo gs z, Star KA gs z.ss]) (v := .bool true) call44 rfl (c_eqNodes hy hz hlen hfl hE hfk) (K4 Z2 Z2 Z2 Z2) (Av (.bool true) (Nr ?_))))))))))
 exact At_ret1 results27 (fun w q => ⟨rfl, q.mono (En Z0 (En Z0 (En Z0 (En Z0 D2))))⟩)
theorem c_same0 : ∀ F w, Sat ([] ++ F) w → Calls prog 27 [.agg #[.slice none 0 0], .agg #[.slice none 0 0]].toArray w fun e w' => e = .returned (.bool true) ∧ Sat ([] ++ F) w' := by
 intro F
 refine calls_of_WC (fn := f27) func27 rfl rfl (Sr (WL_ef (ef_box (v := .agg #[.slice none 0 0]) (l := [.slice none 0 0]) rfl rfl) fun b1 => WL_ef (ef_box (v := .agg #[.slice none 0 0]) (l := [.slice none 0 0]) rfl rfl) fun b2 => Av (.bool false) (Ny (Fa b1 0 fa26_0 (Lo b1 0 (.slice none 0 0) isAgg24 Z1 rfl (Fa b2 0 fa26_0 (Lo b2 0 (.slice none 0 0) isAgg24 Z0 rfl (WL_callQ (Δ := []) (v := .bool true) call44 rfl (c_eqNil) (.nil) (Av (.bool true) (Nr ?_))))))))))
 exact At_ret1 results27 (fun w q => ⟨rfl, q.mono (D2)⟩)
end
end Go.Proofs

namespace Go.Proofs
open Go.Px Tryz
def partV (sv : SV) (i j : Nat) : SV := (if sv.2.2 = i then sv.1 else sv.1.map (·.add i), j - i, sv.2.2 - i)
section
variable {n : Nat} {ρ : Env} {Γ Γ' : List HP} {d : Option Tmp} {ty : TypeId} {pos : String} {af : Array Edge} {gd : Option (Nat × Bool)}
theorem rd_partHi {x y : Operand} {T E : TypeId} {sv : SV} {p : Nat} {i : Int} {k : IntKind} (hU : ∀ w, (underlying T).run prog w = .ok (.slice E) w) (hS : ∀ w, (sizeOf E).run prog w = .ok 1 w)
 (hx : evE n ρ x = slV sv) (hy : evE n ρ y = .int k i) (hi : i = (p : Int)) (h1 : p ≤ sv.2.2) : Rd prog n ρ ⟨d, .slice T x none (some y) none, ty, pos, af, gd⟩ Γ (slV (partV sv 0 p)) := fun w _ => by
 subst hi
 have e : ((0 : Int) ≤ (p : Int) ∧ (p : Int) ≤ (sv.2.2 : Int)) := ⟨Int.natCast_nonneg p, by omega⟩
 simp only [execOp, Instr.sliceAt, Instr.slice, Instr.sliceBounds, Instr.sliceBound, hx, hy, asIntOf, Sem.run_bind, Sem.run_pure, Result.andThen_ok, hU, hS, Option.map_some, Option.map_none, if_pos e, Int.toNat_natCast, Nat.zero_mul]
 rfl
theorem rd_partLo {x y : Operand} {T E : TypeId} {sv : SV} {p : Nat} {i : Int} {k : IntKind} (hU : ∀ w, (underlying T).run prog w = .ok (.slice E) w) (hS : ∀ w, (sizeOf E).run prog w = .ok 1 w)
 (hx : evE n ρ x = slV sv) (hy : evE n ρ y = .int k i) (hi : i = (p : Int)) (h1 : p ≤ sv.2.1) : Rd prog n ρ ⟨d, .slice T x (some y) none none, ty, pos, af, gd⟩ Γ (slV (partV sv p sv.2.1)) := fun w _ => by
 subst hi
 have e : ((0 : Int) ≤ (p : Int) ∧ (p : Int) ≤ (sv.2.1 : Int)) := ⟨Int.natCast_nonneg p, by omega⟩
 simp only [execOp, Instr.sliceAt, Instr.slice, Instr.sliceBounds, Instr.sliceBound, hx, hy, asIntOf, Sem.run_bind, Sem.run_pure, Result.andThen_ok, hU, hS, Option.map_some, Option.map_none, if_pos e, Int.toNat_natCast, Nat.mul_one]
 rfl
theorem ef_appNil {x y : Operand} {so : SV} {s : Bs} (hx : evE n ρ x = slV so) (hy : evE n ρ y = .slice none 0 0) (hs : Sel Γ (BY so s) Γ') :
 Ef prog n ρ ⟨d, .call ⟨.builtin .append, #[x, y], #[22, 22]⟩, ty, pos, af, gd⟩ Γ slV (fun v' => BY v' s :: Γ') := fun w q => by
 have q : Sat (BY so s :: Γ') w := q.mono hs.ent
 have hc : so.2.1 ≤ so.2.2 := by
  obtain ⟨s1, s2, s3⟩ := so
  obtain ⟨h1, h2, d9, p, q2⟩ := q
  obtain ⟨_, ⟨e, h0⟩ | ⟨b, cap, sp, e, hmc, _⟩⟩ := p
  · have e : Value.slice s1 s2 s3 = _ := e
    cases e; exact Nat.le_refl _
  have e : Value.slice s1 s2 s3 = _ := e
  cases e; exact hmc
 refine ⟨so, w, ?_, q⟩
 obtain ⟨s1, s2, s3⟩ := so
 have hc : s2 ≤ s3 := hc
 simp only [execOp, resolve, invoke, builtin, Sem.run_bind, Sem.run_pure, Result.andThen_ok, List.map_toArray, List.map_cons, List.map_nil, hx, hy]
 cases s1 <;> simp [Builtin.append_, Sem.run, runUnderlying22, sizeOf5, underlying22, run_underlying underlying22, run_underlying underlying5, Builtin.lenOf, Builtin.firstCells, storeCells, hc]
theorem ef_appPart {x y : Operand} {so sv : SV} {s l : Bs} {rx : RX} {i j : Nat} (hx : evE n ρ x = slV so) (hy : evE n ρ y = slV (partV sv i j)) (hs : Sels Γ [BY so s, RB (slV sv) l rx] Γ') (hij : i ≤ j) (hj : j ≤ l.length) (hc : l.length ≤ sv.2.2) (hb : s.length + l.length ≤ 70368744177664) :
 Ef prog n ρ ⟨d, .call ⟨.builtin .append, #[x, y], #[22, 22]⟩, ty, pos, af, gd⟩ Γ slV (fun v' => BY v' (s ++ (l.take j).drop i) :: RB (slV sv) l rx :: Γ') := fun w q => by
 have q : Sat (BY so s :: RB (slV sv) l rx :: Γ') w := q.mono hs.ent
 have q2 : Sat (RB (slV sv) l rx :: BY so s :: Γ') w := sep_swap q
 obtain ⟨s1, s2, s3⟩ := sv
 rcases rb_cases q2 with ⟨rfl, e, rfl, s9⟩ | ⟨a, cap, rfl, e, rfl, s9⟩ | ⟨b, o, cap, c, T, fz, rfl, e, he, s9⟩
 · have e : Value.slice s1 s2 s3 = _ := e
   cases e
   obtain rfl : j = 0 := by simpa using hj
   obtain rfl : i = 0 := by omega
   obtain ⟨v', w', hr, hS⟩ := ef_appNil (d := d) (ty := ty) (pos := pos) (af := af) (gd := gd) (s := s) hx (by rw [hy]; rfl) .zero w s9
   refine ⟨v', w', hr, ?_⟩
   rw [List.take_nil, List.drop_nil, List.append_nil]
   exact sep_tail (fun h s => rb_none (.inl rfl) h s) hS
 · have e : Value.slice s1 s2 s3 = _ := e
   cases e
   obtain rfl : j = 0 := by simpa using hj
   obtain rfl : i = 0 := by omega
   have hy : ∃ a', evE n ρ y = .slice (some a') 0 s3 := by
    rw [hy]
    unfold partV slV
    by_cases h : s3 = 0
    · exact ⟨a, by simp [h]⟩
    exact ⟨a.add 0, by simp [h]⟩
   obtain ⟨a', hy⟩ := hy
   obtain ⟨v', w', hr, hS⟩ := ef_appRB0 (d := d) (ty := ty) (pos := pos) (af := af) (gd := gd) (s := s) hx hy .zero (by omega) w s9
   refine ⟨v', w', hr, ?_⟩
   rw [List.take_nil, List.drop_nil, List.append_nil]
   exact sep_tail (fun h s => rb_none (.inr ⟨a, s3, rfl⟩) h s) hS
 have e : Value.slice s1 s2 s3 = _ := e
 cases e
 have hlen : ((l.take j).drop i).length = j - i := by simp; omega
 have hc : l.length ≤ s3 := hc
 obtain ⟨o', hy', he'⟩ : ∃ o', evE n ρ y = .slice (some ⟨b, o', none⟩) ((l.take j).drop i).length (s3 - i) ∧ (c.toList.drop o').take ((l.take j).drop i).length = ((l.take j).drop i).map u8v := by
  rw [hy, hlen]
  unfold partV slV
  by_cases h : s3 = i
  · refine ⟨o, by simp [h], ?_⟩
    have h0 : j - i = 0 := by omega
    have : (l.take j).drop i = [] := List.eq_nil_of_length_eq_zero (by rw [hlen]; exact h0)
    rw [this, h0]; rfl
  refine ⟨o + i, by simp [h, Addr.add], ?_⟩
  have h2 : (((c.toList.drop o).take l.length).take j).drop i = ((l.map u8v).take j).drop i := by rw [he]
  rw [List.map_drop, List.map_take, ← h2, List.take_take, Nat.min_eq_left hj, List.drop_take, List.drop_drop]
 have s8 : Sat (BY so s :: Blk b (.cells c T fz) :: Γ') w := sep_swap s9
 obtain ⟨v', w', hr, hS⟩ := ef_appRB (d := d) (ty := ty) (pos := pos) (af := af) (gd := gd) (s := s) (l := (l.take j).drop i) hx hy' he' (.cons .zero (.cons .zero .nil)) (by rw [hlen]; omega) w s8
 exact ⟨v', w', hr, sep_tail (fun h s => rb_some he h s) hS⟩
theorem rd_ldKindT {x : Operand} {T : TypeId} {j tb : Nat} {L : List Tk} {t : Tk} (hA : ∀ w, (isAgg T).run prog w = .ok false w) (hx : evE n ρ x = .pointer (some ⟨tb, 0 + j * 4, none⟩)) (hs : Sel Γ (TB tb L) Γ') (ht : L[j]? = some t) :
 Rd prog n ρ ⟨d, .load T x, ty, pos, af, gd⟩ Γ (.int .i64 t.kind) := fun w s => by
 obtain ⟨sp, s1⟩ := sep_ex (s.mono hs.ent)
 have hcells : ∀ (L : List Tk) (j : Nat), L[j]? = some t → (L.flatMap tkCells ++ sp)[j * 4]? = some (.int .i64 t.kind) := by
  intro L
  induction L with
  | nil => intro j h; simp at h
  | cons u L ih =>
   intro j h
   cases j with
   | zero => simp only [List.getElem?_cons_zero, Option.some.injEq] at h; subst h; rfl
   | succ j =>
    simp only [List.getElem?_cons_succ] at h
    have h9 := ih j h
    rw [List.flatMap_cons, List.append_assoc, List.getElem?_append_right (by simp [tkCells]; omega)]
    rw [show (j + 1) * 4 - (tkCells u).length = j * 4 by simp [tkCells]; omega]
    exact h9
 exact rd_load1' (P := prog) (n := n) (ρ := ρ) (Γ := Cl tb 47 (L.flatMap tkCells ++ sp) :: Γ') (b := tb) (o := 0 + j * 4) (v := .int .i64 t.kind) hA hx .zero (by rw [Nat.zero_add]; exact hcells L j ht) w s1
end
end Go.Proofs

namespace Go.Px
def kidsAt : List PT → Nat → List Int
 | [], _ => []
 | t :: l, b => (b : Int) :: kidsAt l (b + t.size)
mutual
def flat : PT → Nat → List FN
 | .node k s n a l, b => ⟨k, s, n, kidsAt l (b + 1), a⟩ :: flats l (b + 1)
def flats : List PT → Nat → List FN
 | [], _ => []
 | t :: l, b => flat t b ++ flats l (b + t.size)
end
mutual
theorem flat_len : ∀ (x : PT) (b : Nat), (flat x b).length = x.size
 | .node k s n a l, b => by unfold flat PT.size; rw [List.length_cons, flats_len l]
theorem flats_len : ∀ (l : List PT) (b : Nat), (flats l b).length = sizes l
 | [], b => by unfold flats sizes; rfl
 | t :: l, b => by unfold flats sizes; rw [List.length_append, flat_len t, flats_len l]
end
def addKids (fs : List FN) (p : Nat) (ks : List Int) : List FN := fs.modify p fun f => { f with kids := f.kids ++ ks }
theorem addKid_eq (fs : List FN) (p : Nat) (a : Int) : addKid fs p a = addKids fs p [a] := by
 unfold addKid addKids
 apply List.ext_getElem?
 intro i
 cases h : fs[p]? with
 | none =>
  simp only [List.getElem?_modify]
  by_cases e : p = i
  · subst e; simp [h]
  simp [e]
 | some f =>
  simp only [List.getElem?_modify, List.getElem?_set]
  by_cases e : p = i
  · subst e
    obtain ⟨h1, h2⟩ := List.getElem?_eq_some_iff.1 h
    subst h2
    simp [h1]
  simp [e]
theorem addKids_app {A B : List FN} {p : Nat} {ks : List Int} (h : p < A.length) : addKids (A ++ B) p ks = addKids A p ks ++ B := by
 unfold addKids
 apply List.ext_getElem?
 intro i
 by_cases hi : i < A.length
 · rw [List.getElem?_modify, List.getElem?_append_left hi, List.getElem?_append_left (by simpa using hi), List.getElem?_modify]
 have e : ¬ p = i := by omega
 rw [List.getElem?_modify, List.getElem?_append_right (by omega), List.getElem?_append_right (by simpa using hi)]
 simp [e]
theorem addKids_two (A : List FN) (p : Nat) (a : Int) (ks : List Int) : addKids (addKids A p [a]) p ks = addKids A p (a :: ks) := by
 unfold addKids
 apply List.ext_getElem?
 intro i
 simp only [List.getElem?_modify]
 by_cases e : p = i <;> cases A[i]? <;> simp [e]
theorem addKids_nil (A : List FN) (p : Nat) : addKids A p [] = A := by
 unfold addKids
 apply List.ext_getElem?
 intro i
 simp only [List.getElem?_modify]
 by_cases e : p = i <;> cases A[i]? <;> simp [e]
theorem addKids_length (A : List FN) (p : Nat) (ks : List Int) : (addKids A p ks).length = A.length := by unfold addKids; simp
theorem addKids_last (A : List FN) (f : FN) (ks : List Int) : addKids (A ++ [f]) A.length ks = A ++ [{ f with kids := f.kids ++ ks }] := by
 induction A with
 | nil => rfl
 | cons a A ih =>
  show a :: addKids (A ++ [f]) A.length ks = _
  rw [ih]; rfl
mutual
theorem layK_tree : ∀ (x : PT) (p k : Nat) (st : List (PT × Int)) (fs : List FN), p < fs.length → layK (x.size + k) ((x, (p : Int)) :: st) fs = layK k st (addKids fs p [(fs.length : Int)] ++ flat x fs.length)
 | .node kk s n a l, p, k, st, fs, hp => by
  have e : (PT.node kk s n a l).size + k = (sizes l + k) + 1 := by unfold PT.size; omega
  rw [e]
  show layK (sizes l + k) (l.map (fun c => (c, (fs.length : Int))) ++ st) (bif decide (0 ≤ (p : Int)) then addKid (fs ++ [⟨kk, s, n, [], a⟩]) (p : Int).toNat fs.length else fs ++ [⟨kk, s, n, [], a⟩]) = _
  rw [show decide (0 ≤ (p : Int)) = true by simp, cond_true, Int.toNat_natCast, addKid_eq, addKids_app hp]
  have hl : (addKids fs p [(fs.length : Int)] ++ ([⟨kk, s, n, [], a⟩] : List FN)).length = fs.length + 1 := by simp [addKids_length]
  rw [layK_list l fs.length k st _ (by rw [hl]; omega), hl]
  have h2 := addKids_last (addKids fs p [(fs.length : Int)]) ⟨kk, s, n, [], a⟩ (kidsAt l (fs.length + 1))
  rw [addKids_length] at h2
  rw [h2, List.append_assoc]
  unfold flat
  rfl
theorem layK_list : ∀ (l : List PT) (p k : Nat) (st : List (PT × Int)) (fs : List FN), p < fs.length → layK (sizes l + k) (l.map (fun c => (c, (p : Int))) ++ st) fs = layK k st (addKids fs p (kidsAt l fs.length) ++ flats l fs.length)
 | [], p, k, st, fs, hp => by unfold sizes kidsAt flats; rw [addKids_nil, List.append_nil, Nat.zero_add]; rfl
 | x :: l, p, k, st, fs, hp => by
  unfold sizes
  rw [Nat.add_assoc, List.map_cons, List.cons_append, layK_tree x p _ _ fs hp]
  have hl : (addKids fs p [(fs.length : Int)] ++ flat x fs.length).length = fs.length + x.size := by rw [List.length_append, addKids_length, flat_len]
  rw [layK_list l p k st _ (by rw [hl]; omega), hl, addKids_app (by rw [addKids_length]; exact hp), addKids_two, List.append_assoc]
  rfl
end
end Go.Px
namespace Go.Proofs
open Go.Px
theorem lay_flat (x : PT) : lay x = flat x 0 := by
 obtain ⟨kk, s, n, a, l⟩ := x
 unfold lay
 have e : (PT.node kk s n a l).size = sizes l + 0 + 1 := by unfold PT.size; omega
 rw [e]
 show layK (sizes l + 0) (l.map (fun c => (c, ((0 : Nat) : Int))) ++ []) [⟨kk, s, n, [], a⟩] = _
 rw [layK_list l 0 0 [] [⟨kk, s, n, [], a⟩] (by simp)]
 have h2 := addKids_last [] ⟨kk, s, n, [], a⟩ (kidsAt l 1)
 unfold flat layK
 show addKids ([] ++ [⟨kk, s, n, [], a⟩]) ([] : List FN).length (kidsAt l 1) ++ flats l 1 = _
 rw [h2]; rfl
theorem kidsAt_len : ∀ (l : List PT) (b : Nat), (kidsAt l b).length = l.length
 | [], b => rfl
 | t :: l, b => by unfold kidsAt; rw [List.length_cons, kidsAt_len l, List.length_cons]
mutual
theorem flat_kids : ∀ (x : PT) (b : Nat), ∀ f ∈ flat x b, f.kids.length ≤ x.size
 | .node k s n a l, b, f, hf => by
  unfold flat at hf
  unfold PT.size
  rcases List.mem_cons.1 hf with rfl | hf
  · show (kidsAt l (b + 1)).length ≤ _
    rw [kidsAt_len]
    have := len_sizes l
    omega
  have := flats_kids l (b + 1) f hf
  omega
theorem flats_kids : ∀ (l : List PT) (b : Nat), ∀ f ∈ flats l b, f.kids.length ≤ sizes l
 | [], b, f, hf => by unfold flats at hf; cases hf
 | t :: l, b, f, hf => by
  unfold flats at hf
  unfold sizes
  rcases List.mem_append.1 hf with hf | hf
  · have := flat_kids t b f hf
    omega
  have := flats_kids l (b + t.size) f hf
  omega
end
theorem lay_len (x : PT) : (lay x).length = x.size := by rw [lay_flat, flat_len]
theorem lay_kids (x : PT) : ∀ f ∈ lay x, f.kids.length ≤ x.size := fun f hf => flat_kids x 0 f (by rw [← lay_flat]; exact hf)
def Emb (R : List FN) (b : Nat) (x : PT) : Prop := ∀ (i : Nat) f, (flat x b)[i]? = some f → R[b + i]? = some f
def Embs (R : List FN) (b : Nat) (l : List PT) : Prop := ∀ (i : Nat) f, (flats l b)[i]? = some f → R[b + i]? = some f
end Go.Proofs

namespace Go.Px
def erT (t : Tk) : Tk := ⟨t.kind, t.text, 0, 0⟩
def ers (ts : List Tk) : List Tk := ts.map erT
mutual
def erP : PT → PT
 | .node k s n a l => .node k s n 0 (erPs l)
def erPs : List PT → List PT
 | [] => []
 | x :: l => erP x :: erPs l
end
def erN : NT → NT
 | .loop _ => .loop 0
 | .ended k _ m => .ended k 0 m
 | .tri _ => .tri 0
 | .arrowed _ => .arrowed 0
 | .enu n _ => .enu n 0
 | .variabl n _ => .variabl n 0
 | .functio k _ => .functio k 0
 | .clas _ => .clas 0
 | .namespac _ => .namespac 0
 | .worded t => .worded (erT t)
 | nt => nt
theorem erPs_app : ∀ (a b : List PT), erPs (a ++ b) = erPs a ++ erPs b
 | [], b => rfl
 | x :: a, b => by rw [List.cons_append, erPs, erPs, erPs_app a b]; rfl
def SameR {α β : Type} (r : α → β → Prop) : Option (Except Int (α × List Tk)) → Option (Except Int (β × List Tk)) → Prop
 | none, none => True
 | some (.error _), some (.error _) => True
 | some (.ok (x, ts)), some (.ok (y, ts')) => r x y ∧ ers ts = ers ts'
 | _, _ => False
def Rel {α β : Type} (r : α → β → Prop) (m : M α) (m' : M β) : Prop := ∀ ts ts', ers ts = ers ts' → SameR r (m ts) (m' ts')
abbrev rP (x y : PT) : Prop := erP x = erP y
abbrev rL (x y : List PT) : Prop := erPs x = erPs y
theorem ers_cons {t : Tk} {l ts' : List Tk} (h : ers (t :: l) = ers ts') : ∃ u l', ts' = u :: l' ∧ erT t = erT u ∧ ers l = ers l' := by
 cases ts' with
 | nil => cases h
 | cons u l' => obtain ⟨h1, h2⟩ := List.cons.inj h; exact ⟨u, l', rfl, h1, h2⟩
theorem ers_nil {ts' : List Tk} (h : ers [] = ers ts') : ts' = [] := by cases ts' with | nil => rfl | cons u l => cases h
theorem erT_eq {t u : Tk} (h : erT t = erT u) : u.kind = t.kind ∧ u.text = t.text := by
 obtain ⟨k, s, p, e⟩ := t
 obtain ⟨k', s', p', e'⟩ := u
 injection h with h1 h2
 exact ⟨h1.symm, h2.symm⟩
theorem ers_last {ts ts' : List Tk} (h : ers ts = ers ts') {t t' : Tk} (ht : erT t = erT t') : erT (ts.getLast?.getD t) = erT (ts'.getLast?.getD t') := by
 have : (ers ts).getLast? = (ers ts').getLast? := by rw [h]
 unfold ers at this
 rw [List.getLast?_map, List.getLast?_map] at this
 cases h1 : ts.getLast? <;> cases h2 : ts'.getLast? <;> rw [h1, h2] at this
 · exact ht
 · cases this
 · cases this
 exact Option.some.inj this
theorem turn_er {t u : Tk} (h : erT t = erT u) : turnT u = turnT t := by
 obtain ⟨h1, h2⟩ := erT_eq h
 unfold turnT; rw [h1, h2]
theorem close_er : ∀ {ts ts' : List Tk} (n : Int), ers ts = ers ts' → (closeAt n ts).map ers = (closeAt n ts').map ers
 | [], ts', n, h => by rw [ers_nil h]
 | t :: l, ts', n, h => by
  obtain ⟨u, l', rfl, h1, h2⟩ := ers_cons h
  rw [closeAt, closeAt, turn_er h1]
  cases (n + turnT t == 0) with
  | true => exact congrArg some h2
  | false => exact close_er _ h2
section
variable {α β γ δ : Type} {r : α → β → Prop} {s : γ → δ → Prop} {m : M α} {m' : M β} {k : α → M γ} {k' : β → M δ}
theorem Rel.bind (h : Rel r m m') (h2 : ∀ x y, r x y → Rel s (k x) (k' y)) : Rel s (m >>= k) (m' >>= k') := fun ts ts' e => by
 have h := h ts ts' e
 show SameR s (M.bind m k ts) (M.bind m' k' ts')
 unfold M.bind
 rcases hm : m ts with _ | a | ⟨x, t⟩ <;> rcases hm' : m' ts' with _ | a' | ⟨y, t'⟩ <;> rw [hm, hm'] at h
 · trivial
 · exact h.elim
 · exact h.elim
 · exact h.elim
 · trivial
 · exact h.elim
 · exact h.elim
 · exact h.elim
 exact h2 x y h.1 t t' h.2
theorem rel_pure {x : γ} {y : δ} (h : s x y) : Rel s (pure x) (pure y) := fun ts ts' e => ⟨h, e⟩
theorem rel_fail : Rel s (failM : M γ) (failM : M δ) := fun ts ts' e => by
 cases ts with
 | nil => rw [ers_nil e]; trivial
 | cons t l => obtain ⟨u, l', rfl, _⟩ := ers_cons e; trivial
theorem rel_oof : Rel s (oofM : M γ) (oofM : M δ) := fun _ _ _ => trivial
theorem rel_bif {b c : Bool} {m n : M γ} {m' n' : M δ} (hb : b = c) (h1 : Rel s m m') (h2 : Rel s n n') : Rel s (bif b then m else n) (bif c then m' else n') := by
 subst hb; cases b with | true => exact h1 | false => exact h2
theorem rel_bifb {b c : Bool} {m n : M α} {m' n' : M β} (hb : b = c) (h1 : Rel s (m >>= k) (m' >>= k')) (h2 : Rel s (n >>= k) (n' >>= k')) : Rel s ((bif b then m else n) >>= k) ((bif c then m' else n') >>= k') := by
 subst hb; cases b with | true => exact h1 | false => exact h2
theorem tok_ex {t u : Tk} (h : erT t = erT u) {P : Tk → Tk → Prop} (hp : ∀ k s p e p' e', P ⟨k, s, p, e⟩ ⟨k, s, p', e'⟩) : P t u := by
 obtain ⟨k, s, p, e⟩ := t
 obtain ⟨k', s', p', e'⟩ := u
 injection h with h1 h2
 subst h1 h2
 exact hp _ _ _ _ _ _
theorem rel_tok {m m' : M Tk} {k : Tk → M γ} {k' : Tk → M δ} (h : Rel (fun t u => erT t = erT u) m m') (h1 : ∀ kk w p e p' e', Rel s (k ⟨kk, w, p, e⟩) (k' ⟨kk, w, p', e'⟩)) : Rel s (m >>= k) (m' >>= k') :=
 Rel.bind h fun t u e => tok_ex (P := fun t u => Rel s (k t) (k' u)) e h1
theorem now_rel : Rel (fun t u => erT t = erT u) nowM nowM := fun ts ts' e => by
 cases ts with
 | nil => rw [ers_nil e]; trivial
 | cons t l => obtain ⟨u, l', rfl, h1, h2⟩ := ers_cons e; exact ⟨h1, e⟩
theorem next_rel : Rel (fun t u => erT t = erT u) nextM nextM := fun ts ts' e => by
 rcases ts with _ | ⟨t, _ | ⟨t2, l⟩⟩
 · rw [ers_nil e]; trivial
 · obtain ⟨u, l', rfl, h1, h2⟩ := ers_cons e
   rw [ers_nil h2] at e ⊢
   exact ⟨h1, e⟩
 obtain ⟨u, l', rfl, h1, h2⟩ := ers_cons e
 obtain ⟨u2, l2, rfl, h3, h4⟩ := ers_cons h2
 exact ⟨h1, h2⟩
theorem then_rel (n : Nat) : Rel (fun t u => erT t = erT u) (thenM n) (thenM n) := fun ts ts' e => by
 cases ts with
 | nil => rw [ers_nil e]; trivial
 | cons t l =>
  obtain ⟨u, l', rfl, h1, h2⟩ := ers_cons e
  refine ⟨?_, e⟩
  have h3 : (ers (t :: l))[n]? = (ers (u :: l'))[n]? := by rw [e]
  unfold ers at h3
  rw [List.getElem?_map, List.getElem?_map] at h3
  cases h4 : (t :: l)[n]? <;> cases h5 : (u :: l')[n]? <;> rw [h4, h5] at h3
  · exact ers_last e h1
  · cases h3
  · cases h3
  exact Option.some.inj h3
theorem closed_rel : Rel (fun t u => erT t = erT u) closedM closedM := fun ts ts' e => by
 cases ts with
 | nil => rw [ers_nil e]; trivial
 | cons t l =>
  obtain ⟨u, l', rfl, h1, h2⟩ := ers_cons e
  refine ⟨?_, e⟩
  have h3 := close_er 0 e
  rcases h4 : closeAt 0 (t :: l) with _ | _ | ⟨a, r⟩ <;> rcases h5 : closeAt 0 (u :: l') with _ | _ | ⟨b, q⟩ <;> rw [h4, h5] at h3
  · exact ers_last e h1
  · cases h3
  · cases h3
  · cases h3
  · exact ers_last e h1
  · cases h3
  · cases h3
  · cases h3
  exact (List.cons.inj (Option.some.inj h3)).1
end
section
variable {γ δ : Type} {s : γ → δ → Prop}
theorem rel_now {k : Tk → M γ} {k' : Tk → M δ} (h : ∀ kk t p e p' e', Rel s (k ⟨kk, t, p, e⟩) (k' ⟨kk, t, p', e'⟩)) : Rel s (nowM >>= k) (nowM >>= k') := rel_tok now_rel h
theorem rel_next {k : Tk → M γ} {k' : Tk → M δ} (h : ∀ kk t p e p' e', Rel s (k ⟨kk, t, p, e⟩) (k' ⟨kk, t, p', e'⟩)) : Rel s (nextM >>= k) (nextM >>= k') := rel_tok next_rel h
theorem rel_then {n : Nat} {k : Tk → M γ} {k' : Tk → M δ} (h : ∀ kk t p e p' e', Rel s (k ⟨kk, t, p, e⟩) (k' ⟨kk, t, p', e'⟩)) : Rel s (thenM n >>= k) (thenM n >>= k') := rel_tok (then_rel n) h
theorem rel_closed {k : Tk → M γ} {k' : Tk → M δ} (h : ∀ kk t p e p' e', Rel s (k ⟨kk, t, p, e⟩) (k' ⟨kk, t, p', e'⟩)) : Rel s (closedM >>= k) (closedM >>= k') := rel_tok closed_rel h
theorem is_rel (w : Bs) : Rel Eq (isM w) (isM w) := by
 unfold isM
 exact rel_now fun kk t p e p' e' => rel_pure rfl
theorem rel_is {w : Bs} {k : Bool → M γ} {k' : Bool → M δ} (h : ∀ b, Rel s (k b) (k' b)) : Rel s (isM w >>= k) (isM w >>= k') := Rel.bind (is_rel w) fun x y e => e ▸ h x
theorem take_rel (w : Bs) : Rel Eq (takeM w) (takeM w) := by
 unfold takeM
 exact rel_is fun b => rel_bif rfl (rel_pure rfl) (rel_next fun _ _ _ _ _ _ => rel_pure rfl)
theorem rel_take {w : Bs} {k : Bool → M γ} {k' : Bool → M δ} (h : ∀ b, Rel s (k b) (k' b)) : Rel s (takeM w >>= k) (takeM w >>= k') := Rel.bind (take_rel w) fun x y e => e ▸ h x
theorem must_rel (w : Bs) : Rel Eq (mustM w) (mustM w) := by
 unfold mustM
 exact rel_take fun b => rel_bif rfl rel_fail (rel_pure rfl)
theorem rel_must {w : Bs} {k : Unit → M γ} {k' : Unit → M δ} (h : Rel s (k ()) (k' ())) : Rel s (mustM w >>= k) (mustM w >>= k') := Rel.bind (must_rel w) fun x y e => h
theorem name_rel : Rel Eq nameM nameM := by
 unfold nameM
 exact rel_now fun _ _ _ _ _ _ => rel_bif rfl rel_fail (rel_next fun _ _ _ _ _ _ => rel_pure rfl)
theorem rel_name {k : Bs → M γ} {k' : Bs → M δ} (h : ∀ b, Rel s (k b) (k' b)) : Rel s (nameM >>= k) (nameM >>= k') := Rel.bind name_rel fun x y e => e ▸ h x
theorem rel_none {k : PT → M γ} {k' : PT → M δ} (h : ∀ a a', Rel s (k (.node 1 [] 0 a [])) (k' (.node 1 [] 0 a' []))) : Rel s (noneM >>= k) (noneM >>= k') := by
 unfold noneM
 rw [M.assoc, M.assoc]
 exact rel_now fun _ _ _ _ _ _ => h _ _
theorem rel_empty {k : PT → M γ} {k' : PT → M δ} (h : ∀ a a', Rel s (k (.node 2 [] 0 a [])) (k' (.node 2 [] 0 a' []))) : Rel s (emptyM >>= k) (emptyM >>= k') := by
 unfold emptyM
 rw [M.assoc, M.assoc]
 exact rel_now fun _ _ _ _ _ _ => h _ _
theorem empty_rel : Rel rP emptyM emptyM := by
 unfold emptyM
 exact rel_now fun _ _ _ _ _ _ => rel_pure rfl
theorem none_rel : Rel rP noneM noneM := by
 unfold noneM
 exact rel_now fun _ _ _ _ _ _ => rel_pure rfl
theorem push_rel {t u : Tk} (h : erT t = erT u) : Rel Eq (pushM t) (pushM u) := fun ts ts' e => by
 cases ts with
 | nil => rw [ers_nil e]; trivial
 | cons a l => obtain ⟨b, l', rfl, _, h2⟩ := ers_cons e; exact ⟨rfl, by show erT t :: ers l = erT u :: ers l'; rw [h, h2]⟩
theorem angle_rel : Rel Eq angleM angleM := by
 unfold angleM
 refine rel_take fun b => rel_bif rfl (rel_pure rfl) (rel_now fun kk t p e p' e' => ?_)
 rcases t with _ | ⟨c, _ | ⟨d, l⟩⟩
 · exact rel_fail
 · exact rel_fail
 have hs : ∀ q q2, splitT ⟨kk, c :: d :: l, q, q2⟩ = bif kk == 9 && c == 62 then some ⟨kk, d :: l, q + 1, q2⟩ else none := fun _ _ => rfl
 rw [hs, hs]
 cases (kk == 9 && c == 62) with
 | true => exact push_rel rfl
 | false => exact rel_fail
theorem rel_angle {k : Unit → M γ} {k' : Unit → M δ} (h : Rel s (k ()) (k' ())) : Rel s (angleM >>= k) (angleM >>= k') := Rel.bind angle_rel fun x y e => h
theorem one_rel : ∀ (l : List Bs), Rel Eq (takeOne l) (takeOne l)
 | [] => rel_pure rfl
 | w :: l => by
  unfold takeOne
  exact rel_take fun b => rel_bif rfl (one_rel l) (rel_pure rfl)
theorem any_rel : ∀ (l : List Bs), Rel Eq (takeAny l) (takeAny l)
 | [] => rel_pure rfl
 | w :: l => by
  unfold takeAny
  exact rel_take fun b => rel_bif rfl (rel_pure rfl) (any_rel l)
theorem rel_any {l : List Bs} {k : Bool → M γ} {k' : Bool → M δ} (h : ∀ b, Rel s (k b) (k' b)) : Rel s (takeAny l >>= k) (takeAny l >>= k') := Rel.bind (any_rel l) fun x y e => e ▸ h x
theorem node_ex {x y : PT} (h : rP x y) {P : PT → PT → Prop} (hp : ∀ k w n a a' l l', rL l l' → P (.node k w n a l) (.node k w n a' l')) : P x y := by
 obtain ⟨k, w, n, a, l⟩ := x
 obtain ⟨k', w', n', a', l'⟩ := y
 unfold rP at h
 rw [erP, erP] at h
 injection h with h1 h2 h3 h4 h5
 subst h1 h2 h3
 exact hp _ _ _ _ _ _ _ h5
theorem more_rel {m m' : M PT} (h : Rel rP m m') : ∀ (k : Nat) (acc acc' : List PT), rL acc acc' → Rel rL (moreM k m acc) (moreM k m' acc')
 | 0, acc, acc', ha => rel_oof
 | k + 1, acc, acc', ha => by
  unfold moreM
  exact rel_take fun b => rel_bif rfl (Rel.bind h fun x y e => more_rel h k _ _ (by unfold rL at *; simp only [erPs_app, erPs, ha, e])) (rel_pure ha)
theorem list_rel {K : Nat} {m m' : M PT} (h : Rel rP m m') : Rel rP (listM K m) (listM K m') := by
 unfold listM
 exact rel_now fun _ _ _ _ _ _ => Rel.bind h fun x y e => Rel.bind (more_rel h K _ _ (by simp only [rL, erPs]; rw [e])) fun l l' e => rel_pure (by unfold rP; rw [erP, erP, e])
theorem rel_node {m m' : M PT} {k : PT → M γ} {k' : PT → M δ} (h : Rel rP m m') (h1 : ∀ kk w n a a' l l', rL l l' → Rel s (k (.node kk w n a l)) (k' (.node kk w n a' l'))) : Rel s (m >>= k) (m' >>= k') :=
 Rel.bind h fun x y e => node_ex (P := fun x y => Rel s (k x) (k' y)) e h1
end
theorem nrmP2 : (∀ {α β γ : Type} (m : M α) (f : α → M β) (k : β → M γ), ((m >>= f) >>= k) = (m >>= fun x => f x >>= k)) ∧ (∀ {α β : Type} (x : α) (k : α → M β), ((Pure.pure x : M α) >>= k) = k x) ∧
 (∀ {α β : Type} (k : α → M β), ((failM : M α) >>= k) = failM) := ⟨M.assoc, M.pureb, M.failb⟩
def GE (g : NT → M PT) : Prop := ∀ nt nt', erN nt = erN nt' → Rel rP (g nt) (g nt')
section
variable {K : Nat} {g : NT → M PT} {γ δ : Type} {s : γ → δ → Prop}
variable (hg : GE g)
include hg
theorem rel_g {nt nt' : NT} {k : PT → M γ} {k' : PT → M δ} (h : erN nt = erN nt') (h1 : ∀ kk w n a a' l l', rL l l' → Rel s (k (.node kk w n a l)) (k' (.node kk w n a' l'))) : Rel s (g nt >>= k) (g nt' >>= k') := rel_node (hg nt nt' h) h1
theorem rel_lg {nt : NT} {k : PT → M γ} {k' : PT → M δ} (h1 : ∀ kk w n a a' l l', rL l l' → Rel s (k (.node kk w n a l)) (k' (.node kk w n a' l'))) : Rel s (listM K (g nt) >>= k) (listM K (g nt) >>= k') := rel_node (list_rel (hg nt nt rfl)) h1
theorem calls_rel : Rel Eq (callsM g) (callsM g) := fun ts ts' e => by
 have h := hg .args .args rfl ts ts' e
 unfold callsM
 rcases h1 : g .args ts with _ | a | ⟨x, t⟩ <;> rcases h2 : g .args ts' with _ | a' | ⟨y, t'⟩ <;> rw [h1, h2] at h
 · trivial
 · exact h.elim
 · exact h.elim
 · exact h.elim
 · exact ⟨rfl, e⟩
 · exact h.elim
 · exact h.elim
 · exact h.elim
 have h3 := is_rel [40] t t' h.2
 dsimp only
 rcases h4 : isM [40] t with _ | a | ⟨x, q⟩ <;> rcases h5 : isM [40] t' with _ | a' | ⟨y, q'⟩ <;> rw [h4, h5] at h3
 · trivial
 · exact h3.elim
 · exact h3.elim
 · exact h3.elim
 · exact ⟨rfl, e⟩
 · exact h3.elim
 · exact h3.elim
 · exact h3.elim
 exact ⟨h3.1, e⟩
set_option maxHeartbeats 20000000 in
theorem e_A : (Rel (rP) (varM) (varM)) ∧
 (∀ (m : Bool), Rel (rP) (paramM g m) (paramM g m)) ∧
 (∀ (w : Bs), Rel (rP) (mayM g w) (mayM g w)) := by
 refine ⟨?_, ?_, ?_⟩
 all_goals
  intros
  first | unfold varM | unfold paramM | unfold mayM
  try simp only [nrmP2]
  repeat' ((first
   | with_reducible exact rel_fail
   | with_reducible exact rel_oof
   | with_reducible refine rel_now fun kk w p e p' e' => ?_
   | with_reducible refine rel_next fun kk w p e p' e' => ?_
   | with_reducible refine rel_then fun kk w p e p' e' => ?_
   | with_reducible refine rel_closed fun kk w p e p' e' => ?_
   | with_reducible refine rel_is fun b => ?_
   | with_reducible refine rel_take fun b => ?_
   | with_reducible refine rel_must ?_
   | with_reducible refine rel_name fun b => ?_
   | with_reducible refine rel_angle ?_
   | with_reducible refine rel_none fun a a' => ?_
   | with_reducible refine rel_empty fun a a' => ?_
   | with_reducible refine rel_any fun b => ?_
   | with_reducible refine rel_bifb rfl ?_ ?_
   | with_reducible refine rel_bif rfl ?_ ?_
   | with_reducible refine rel_g hg rfl fun kk w n a a' l l' hl => ?_
   | with_reducible refine rel_lg hg fun kk w n a a' l l' hl => ?_
   | refine rel_pure (by simp only [rP, rL, erP, erPs, erPs_app, PT.kids, PT.moved, Option.map, *])
   | exact rel_pure rfl
   | exact hg _ _ rfl
   | exact is_rel _
   | exact empty_rel
   | exact none_rel
   | refine rel_bifb (by first | rfl | (simp only [PT.kind, PT.num])) ?_ ?_
   | refine rel_bif (by first | rfl | (simp only [PT.kind, PT.num])) ?_ ?_) <;> try simp only [nrmP2])
set_option maxHeartbeats 20000000 in
theorem e_B : (Rel (rP) (varsM K) (varsM K)) := by
 all_goals
  intros
  first | unfold varsM
  try simp only [nrmP2]
  repeat' ((first
   | with_reducible exact rel_fail
   | with_reducible exact rel_oof
   | with_reducible refine rel_now fun kk w p e p' e' => ?_
   | with_reducible refine rel_next fun kk w p e p' e' => ?_
   | with_reducible refine rel_then fun kk w p e p' e' => ?_
   | with_reducible refine rel_closed fun kk w p e p' e' => ?_
   | with_reducible refine rel_is fun b => ?_
   | with_reducible refine rel_take fun b => ?_
   | with_reducible refine rel_must ?_
   | with_reducible refine rel_name fun b => ?_
   | with_reducible refine rel_angle ?_
   | with_reducible refine rel_none fun a a' => ?_
   | with_reducible refine rel_empty fun a a' => ?_
   | with_reducible refine rel_any fun b => ?_
   | with_reducible refine rel_bifb rfl ?_ ?_
   | with_reducible refine rel_bif rfl ?_ ?_
   | with_reducible refine rel_g hg rfl fun kk w n a a' l l' hl => ?_
   | with_reducible refine rel_lg hg fun kk w n a a' l l' hl => ?_
   | with_reducible refine rel_node (list_rel (e_A hg).1) fun kk w n a a' l l' hl => ?_
   | refine rel_pure (by simp only [rP, rL, erP, erPs, erPs_app, PT.kids, PT.moved, Option.map, *])
   | exact rel_pure rfl
   | exact hg _ _ rfl
   | exact is_rel _
   | exact empty_rel
   | exact none_rel
   | refine rel_bifb (by first | rfl | (simp only [PT.kind, PT.num])) ?_ ?_
   | refine rel_bif (by first | rfl | (simp only [PT.kind, PT.num])) ?_ ?_) <;> try simp only [nrmP2])
set_option maxHeartbeats 20000000 in
theorem e_C : (∀ (a a' : Int) k x x', rP x x' → Rel (rP) (partsM g a k x) (partsM g a' k x')) ∧
 (∀ (a a' : Int) k x x', rP x x' → Rel (rP) (dotsM a k x) (dotsM a' k x')) ∧
 (∀ (a a' : Int) k x x', rP x x' → Rel (rP) (rowM a k x) (rowM a' k x')) ∧
 (∀ (a a' : Int) k (tt : Int) acc acc', rL acc acc' → Rel (rL) (tplM g k tt acc) (tplM g k tt acc')) ∧
 (∀ (a a' : Int) k acc acc', rL acc acc' → Rel (rL) (pairsM g k acc) (pairsM g k acc')) ∧
 (∀ (a a' : Int) k acc acc', rL acc acc' → Rel (rL) (stmtsM g k acc) (stmtsM g k acc')) ∧
 (∀ (a a' : Int) k (c : Int) acc acc', rL acc acc' → Rel (fun p q => p.1 = q.1 ∧ rL p.2 q.2) (classM g k c acc) (classM g k c acc')) ∧
 (∀ (a a' : Int) k acc acc', rL acc acc' → Rel (rL) (membersM g k acc) (membersM g k acc')) ∧
 (∀ (a a' : Int) k acc acc', rL acc acc' → Rel (rL) (unionM g k acc) (unionM g k acc')) ∧
 (∀ (a a' : Int) k acc acc', rL acc acc' → Rel (rL) (piecesM g k acc) (piecesM g k acc')) ∧
 (∀ (a a' : Int) k acc acc', rL acc acc' → Rel (rL) (progM g k acc) (progM g k acc')) ∧
 (∀ (a a' : Int) k (w : Bs), Rel (Eq) (pathM k w) (pathM k w)) := by
 refine ⟨?_, ?_, ?_, ?_, ?_, ?_, ?_, ?_, ?_, ?_, ?_, ?_⟩
 all_goals
  intro a a' k
  induction k with
  | zero => intros; exact rel_oof
  | succ k ih =>
   intros
   first | unfold partsM | unfold dotsM | unfold rowM | unfold tplM | unfold pairsM | unfold stmtsM | unfold classM | unfold membersM | unfold unionM | unfold piecesM | unfold progM | unfold pathM
   try simp only [nrmP2]
   repeat' ((first
    | with_reducible exact rel_fail
    | with_reducible exact rel_oof
    | with_reducible refine rel_now fun kk w p e p' e' => ?_
    | with_reducible refine rel_next fun kk w p e p' e' => ?_
    | with_reducible refine rel_then fun kk w p e p' e' => ?_
    | with_reducible refine rel_closed fun kk w p e p' e' => ?_
    | with_reducible refine rel_is fun b => ?_
    | with_reducible refine rel_take fun b => ?_
    | with_reducible refine rel_must ?_
    | with_reducible refine rel_name fun b => ?_
    | with_reducible refine rel_angle ?_
    | with_reducible refine rel_none fun a a' => ?_
    | with_reducible refine rel_empty fun a a' => ?_
    | with_reducible refine rel_any fun b => ?_
    | with_reducible refine rel_bifb rfl ?_ ?_
    | with_reducible refine rel_bif rfl ?_ ?_
    | with_reducible refine rel_g hg rfl fun kk w n a a' l l' hl => ?_
    | with_reducible refine rel_lg hg fun kk w n a a' l l' hl => ?_
    | refine ih _ _ ?_
    | refine ih _ _ _ ?_
    | exact ih _
    | refine Rel.bind (calls_rel hg) fun b b' hb => (hb ▸ ?_)
    | exact rel_pure ⟨rfl, ‹_›⟩
    | (simp only [rP, rL, erP, erPs, erPs_app, *]; done)
    | refine rel_pure (by simp only [rP, rL, erP, erPs, erPs_app, PT.kids, PT.moved, Option.map, *])
    | exact rel_pure rfl
    | exact hg _ _ rfl
    | exact is_rel _
    | exact empty_rel
    | exact none_rel
    | refine rel_bifb (by first | rfl | (simp only [PT.kind, PT.num])) ?_ ?_
    | refine rel_bif (by first | rfl | (simp only [PT.kind, PT.num])) ?_ ?_) <;> try simp only [nrmP2])
set_option maxHeartbeats 20000000 in
theorem e_D : (∀ (t t' : Tk), erT t = erT t' → Rel (fun d d' => d.map erP = d'.map erP) (declM K g t) (declM K g t')) := by
 all_goals
  intros
  first | unfold declM
  try simp only [nrmP2]
  repeat' ((first
   | with_reducible exact rel_fail
   | with_reducible exact rel_oof
   | with_reducible refine rel_now fun kk w p e p' e' => ?_
   | with_reducible refine rel_next fun kk w p e p' e' => ?_
   | with_reducible refine rel_then fun kk w p e p' e' => ?_
   | with_reducible refine rel_closed fun kk w p e p' e' => ?_
   | with_reducible refine rel_is fun b => ?_
   | with_reducible refine rel_take fun b => ?_
   | with_reducible refine rel_must ?_
   | with_reducible refine rel_name fun b => ?_
   | with_reducible refine rel_angle ?_
   | with_reducible refine rel_none fun a a' => ?_
   | with_reducible refine rel_empty fun a a' => ?_
   | with_reducible refine rel_any fun b => ?_
   | with_reducible refine rel_bifb rfl ?_ ?_
   | with_reducible refine rel_bif rfl ?_ ?_
   | with_reducible refine rel_g hg rfl fun kk w n a a' l l' hl => ?_
   | with_reducible refine rel_lg hg fun kk w n a a' l l' hl => ?_
   | with_reducible refine rel_node (e_B hg) fun kk w n a a' l l' hl => ?_
   | refine rel_pure (by simp only [rP, rL, erP, erPs, erPs_app, PT.kids, PT.moved, Option.map, *])
   | exact rel_pure rfl
   | exact hg _ _ rfl
   | exact is_rel _
   | exact empty_rel
   | exact none_rel
   | refine rel_bifb (by first | rfl | (simp only [PT.kind, PT.num])) ?_ ?_
   | refine rel_bif (by first | rfl | (simp only [PT.kind, PT.num])) ?_ ?_) <;> try simp only [nrmP2])
theorem e_again (i : Nat) (sl : List Bs) (a a' : Int) : ∀ k x x', rP x x' → Rel rP (againM g i sl a k x) (againM g i sl a' k x') := by
 intro k
 induction k with
 | zero => intros; exact rel_oof
 | succ k ih =>
  intro x x' h
  unfold againM
  refine Rel.bind (one_rel sl) fun o o' ho => ?_
  subst ho
  cases o with
  | none => exact rel_pure h
  | some w => exact rel_bif rfl (Rel.bind (hg .typed .typed rfl) fun y y' hy => ih _ _ (by simp only [rP, erP, erPs] at *; rw [h, hy])) (Rel.bind (hg (.level (i + 1)) (.level (i + 1)) rfl) fun y y' hy => ih _ _ (by simp only [rP, erP, erPs] at *; rw [h, hy]))
theorem e_level (i : Nat) : Rel rP (levelM K g i) (levelM K g i) := by
 unfold levelM
 cases sgn i with
 | none => exact rel_bif rfl (hg .unary .unary rfl) rel_oof
 | some sl => exact rel_now fun kk w p e p' e' => Rel.bind (hg (.level (i + 1)) (.level (i + 1)) rfl) fun x x' h => e_again hg i sl _ _ _ _ _ h
theorem e_ns : ∀ k acc acc', rL acc acc' → Rel rL (nsM K g k acc) (nsM K g k acc') := by
 intro k
 induction k with
 | zero => intros; exact rel_oof
 | succ k ih =>
  intro acc acc' h
  unfold nsM
  simp only [nrmP2]
  refine rel_is fun b => rel_bif rfl (rel_now fun kk w p e p' e' => rel_take fun b => rel_bif rfl ?_ ?_) (rel_pure h)
  · exact Rel.bind (hg .statement .statement rfl) fun x y e => ih _ _ (by simp only [rL, rP, erPs_app, erPs] at *; rw [h, e])
  have key : Rel rL (nowM >>= fun u => declM K g u >>= fun d => match d with | none => failM | some x => bif x.kind == 47 && x.num == 1 then failM else nsM K g k (acc ++ [.node 50 [] 0 p [x]]))
   (nowM >>= fun u => declM K g u >>= fun d => match d with | none => failM | some x => bif x.kind == 47 && x.num == 1 then failM else nsM K g k (acc' ++ [.node 50 [] 0 p' [x]])) := by
   refine rel_now fun kk w p1 e p1' e' => Rel.bind (e_D hg _ _ rfl) fun d d' hd => ?_
   rcases d with _ | x <;> rcases d' with _ | x'
   · exact rel_fail
   · cases hd
   · cases hd
   have hx : rP x x' := Option.some.inj hd
   refine node_ex (P := fun x x' => Rel rL (match some x with | none => failM | some x => bif x.kind == 47 && x.num == 1 then failM else nsM K g k (acc ++ [.node 50 [] 0 p [x]])) (match some x' with | none => failM | some x => bif x.kind == 47 && x.num == 1 then failM else nsM K g k (acc' ++ [.node 50 [] 0 p' [x]]))) hx fun k w n a a' l l' hl => ?_
   exact rel_bif rfl rel_fail (ih _ _ (by simp only [rL, erPs_app, erPs, erP] at *; rw [h, hl]))
  refine rel_is fun b => rel_bifb rfl ?_ ?_
  · rw [M.pureb, M.pureb]; exact rel_bif rfl rel_fail key
  simp only [nrmP2]
  exact rel_now fun _ _ _ _ _ _ => rel_bif rfl rel_fail key
set_option maxHeartbeats 20000000 in
theorem e_F : (Rel (rP) (exprM g) (exprM g)) ∧
 (∀ (a a' : Int), Rel (rP) (arrowedM K g a) (arrowedM K g a')) ∧
 (Rel (rP) (condM g) (condM g)) ∧
 (Rel (rP) (unaryM g) (unaryM g)) ∧
 (Rel (rP) (givenM K g) (givenM K g)) ∧
 (Rel (rP) (postfM K g) (postfM K g)) ∧
 (Rel (rP) (primaryM K g) (primaryM K g)) ∧
 (∀ (kk : Int) (w : Bs) (p e p' e' : Int), Rel (rP) (wordedM K g ⟨kk, w, p, e⟩) (wordedM K g ⟨kk, w, p', e'⟩)) ∧
 (Rel (rP) (templateM K g) (templateM K g)) ∧
 (Rel (rP) (objectM K g) (objectM K g)) ∧
 (Rel (rP) (blockM K g) (blockM K g)) ∧
 (Rel (rP) (roundM g) (roundM g)) ∧
 (∀ (kk a a' : Int) (m : Bool), Rel (rP) (endedM g kk a m) (endedM g kk a' m)) ∧
 (Rel (rP) (branchM g) (branchM g)) ∧
 (∀ (a a' : Int), Rel (rP) (loopM g a) (loopM g a')) ∧
 (∀ (m a a' : Int), Rel (rP) (variablM g m a) (variablM g m a')) ∧
 (∀ (a a' : Int), Rel (rP) (triM g a) (triM g a')) ∧
 (∀ (kk a a' : Int), Rel (rP) (functioM K g kk a) (functioM K g kk a')) ∧
 (∀ (a a' : Int), Rel (rP) (clasM K g a) (clasM K g a')) ∧
 (Rel (rP) (partM g) (partM g)) ∧
 (∀ (m a a' : Int), Rel (rP) (enuM K g m a) (enuM K g m a')) ∧
 (∀ (a a' : Int), Rel (rP) (namespacM K g a) (namespacM K g a')) ∧
 (Rel (rP) (typedM K g) (typedM K g)) ∧
 (Rel (rP) (rowsM K g) (rowsM K g)) ∧
 (Rel (rP) (plainM g) (plainM g)) ∧
 (Rel (rP) (arrowTypeM g) (arrowTypeM g)) ∧
 (Rel (rP) (refM K g) (refM K g)) ∧
 (∀ (w : Bs), Rel (rP) (refsM K g w) (refsM K g w)) ∧
 (Rel (rP) (argsM K g) (argsM K g)) ∧
 (Rel (rP) (optionalM g) (optionalM g)) ∧
 (Rel (rP) (objectTypeM K g) (objectTypeM K g)) ∧
 (Rel (rP) (pieceM g) (pieceM g)) ∧
 (∀ (m : Bool), Rel (rP) (paramsM K g m) (paramsM K g m)) ∧
 (∀ (kk : Int) (w : Bs) (p e p' e' : Int), Rel (rP) (restM g ⟨kk, w, p, e⟩) (restM g ⟨kk, w, p', e'⟩)) := by
 refine ⟨?_, ?_, ?_, ?_, ?_, ?_, ?_, ?_, ?_, ?_, ?_, ?_, ?_, ?_, ?_, ?_, ?_, ?_, ?_, ?_, ?_, ?_, ?_, ?_, ?_, ?_, ?_, ?_, ?_, ?_, ?_, ?_, ?_, ?_⟩
 all_goals
  intros
  first | unfold exprM arrowM | unfold arrowedM | unfold condM | unfold unaryM | unfold givenM | unfold postfM | unfold primaryM | unfold wordedM | unfold templateM | unfold objectM | unfold blockM | unfold roundM | unfold endedM | unfold branchM | unfold loopM | unfold variablM | unfold triM | unfold functioM | unfold clasM | unfold partM | unfold enuM | unfold namespacM | unfold typedM | unfold rowsM | unfold plainM | unfold arrowTypeM | unfold refM | unfold refsM | unfold argsM | unfold optionalM | unfold objectTypeM | unfold pieceM | unfold paramsM | unfold restM
  try simp only [nrmP2]
  repeat' ((first
   | with_reducible exact rel_fail
   | with_reducible exact rel_oof
   | with_reducible refine rel_now fun kk w p e p' e' => ?_
   | with_reducible refine rel_next fun kk w p e p' e' => ?_
   | with_reducible refine rel_then fun kk w p e p' e' => ?_
   | with_reducible refine rel_closed fun kk w p e p' e' => ?_
   | with_reducible refine rel_is fun b => ?_
   | with_reducible refine rel_take fun b => ?_
   | with_reducible refine rel_must ?_
   | with_reducible refine rel_name fun b => ?_
   | with_reducible refine rel_angle ?_
   | with_reducible refine rel_none fun a a' => ?_
   | with_reducible refine rel_empty fun a a' => ?_
   | with_reducible refine rel_any fun b => ?_
   | with_reducible refine rel_bifb rfl ?_ ?_
   | with_reducible refine rel_bif rfl ?_ ?_
   | with_reducible refine rel_g hg rfl fun kk w n a a' l l' hl => ?_
   | with_reducible refine rel_lg hg fun kk w n a a' l l' hl => ?_
   | with_reducible refine rel_node (e_B hg) fun kk w n a a' l l' hl => ?_
   | with_reducible refine rel_node ((e_A hg).2.2 _) fun kk w n a a' l l' hl => ?_
   | exact list_rel ((e_A hg).2.1 _)
   | refine (e_C hg).1 _ _ _ _ _ (by simp only [rP, erP, *])
   | refine (e_C hg).2.2.1 _ _ _ _ _ (by simp only [rP, erP, *])
   | with_reducible refine rel_node ((e_C hg).2.1 _ _ _ _ _ (by simp only [rP, erP])) fun kk w n a a' l l' hl => ?_
   | with_reducible refine Rel.bind ((e_C hg).2.2.2.1 0 0 _ _ _ _ (by simp only [rL, erPs, erP, *])) fun ll ll' hll => ?_
   | with_reducible refine Rel.bind ((e_C hg).2.2.2.2.1 0 0 _ _ _ (by simp only [rL, erPs, erP, *])) fun ll ll' hll => ?_
   | with_reducible refine Rel.bind ((e_C hg).2.2.2.2.2.1 0 0 _ _ _ (by simp only [rL, erPs, erP, *])) fun ll ll' hll => ?_
   | with_reducible refine Rel.bind ((e_C hg).2.2.2.2.2.2.2.1 0 0 _ _ _ (by simp only [rL, erPs, erP, *])) fun ll ll' hll => ?_
   | with_reducible refine Rel.bind ((e_C hg).2.2.2.2.2.2.2.2.1 0 0 _ _ _ (by simp only [rL, erPs, erP, *])) fun ll ll' hll => ?_
   | with_reducible refine Rel.bind ((e_C hg).2.2.2.2.2.2.2.2.2.1 0 0 _ _ _ (by simp only [rL, erPs, erP, *])) fun ll ll' hll => ?_
   | with_reducible refine Rel.bind (e_ns hg _ _ _ rfl) fun ll ll' hll => ?_
   | (with_reducible refine Rel.bind ((e_C hg).2.2.2.2.2.2.1 0 0 _ _ _ _ rfl) fun q q' hq => ?_; obtain ⟨q1, q2⟩ := q; obtain ⟨q3, q4⟩ := q'; obtain ⟨rfl, hq⟩ := hq)
   | (with_reducible refine Rel.bind ((e_C hg).2.2.2.2.2.2.2.2.2.2.2 0 0 _ _) fun ll ll' hll => ?_; subst hll)
   | refine rel_pure (by simp only [rP, rL, erP, erPs, erPs_app, PT.kids, PT.moved, Option.map, *])
   | exact rel_pure rfl
   | exact hg _ _ rfl
   | exact is_rel _
   | exact empty_rel
   | exact none_rel
   | refine rel_bifb (by first | rfl | (simp only [PT.kind, PT.num])) ?_ ?_
   | refine rel_bif (by first | rfl | (simp only [PT.kind, PT.num])) ?_ ?_) <;> try simp only [nrmP2])
theorem e_statement : Rel rP (statementM K g) (statementM K g) := by
 unfold statementM
 refine rel_now fun kk w p e p' e' => rel_bif rfl (Rel.bind (e_D hg _ _ rfl) fun d d' hd => ?_) ((e_F (K := K) hg).2.2.2.2.2.2.2.2.2.2.2.2.2.2.2.2.2.2.2.2.2.2.2.2.2.2.2.2.2.2.2.2.2 kk w p e p' e')
 rcases d with _ | x <;> rcases d' with _ | x'
 · exact (e_F (K := K) hg).2.2.2.2.2.2.2.2.2.2.2.2.2.2.2.2.2.2.2.2.2.2.2.2.2.2.2.2.2.2.2.2.2 kk w p e p' e'
 · cases hd
 · cases hd
 exact rel_pure (Option.some.inj hd)
end
theorem ge_gr (K : Nat) : ∀ n, GE (gr K n)
 | 0 => fun nt nt' h => rel_oof
 | n + 1 => fun nt nt' h => by
  have hg := ge_gr K n
  obtain ⟨c0, c1, c2, c3, c4, c5, c6, c7, c8, c9, c10, c11, c12, c13, c14, c15, c16, c17, c18, c19, c20, c21, c22, c23, c24, c25, c26, c27, c28, c29, c30, c31, c32, c33⟩ := e_F (K := K) hg
  show Rel rP (stepM K (gr K n) nt) (stepM K (gr K n) nt')
  cases nt with
  | statement => cases nt' <;> first | (cases h; done) | exact e_statement hg
  | level i => cases nt' <;> first | (cases h; done) | (cases h; exact e_level hg i)
  | expr => cases nt' <;> first | (cases h; done) | exact c0
  | arrowed a => cases nt' <;> first | (cases h; done) | (cases h; exact c1 _ _)
  | cond => cases nt' <;> first | (cases h; done) | exact c2
  | unary => cases nt' <;> first | (cases h; done) | exact c3
  | given => cases nt' <;> first | (cases h; done) | exact c4
  | postf => cases nt' <;> first | (cases h; done) | exact c5
  | primary => cases nt' <;> first | (cases h; done) | exact c6
  | worded t =>
   cases nt' with
   | worded u => injection h with h; exact tok_ex (P := fun t u => Rel rP (stepM K (gr K n) (.worded t)) (stepM K (gr K n) (.worded u))) h fun k s p e p' e' => c7 k s p e p' e'
   | _ => cases h
  | template => cases nt' <;> first | (cases h; done) | exact c8
  | object => cases nt' <;> first | (cases h; done) | exact c9
  | block => cases nt' <;> first | (cases h; done) | exact c10
  | round => cases nt' <;> first | (cases h; done) | exact c11
  | ended kk a m => cases nt' <;> first | (cases h; done) | (cases h; exact c12 _ _ _ _)
  | branch => cases nt' <;> first | (cases h; done) | exact c13
  | loop a => cases nt' <;> first | (cases h; done) | (cases h; exact c14 _ _)
  | variabl m a => cases nt' <;> first | (cases h; done) | (cases h; exact c15 _ _ _)
  | tri a => cases nt' <;> first | (cases h; done) | (cases h; exact c16 _ _)
  | functio kk a => cases nt' <;> first | (cases h; done) | (cases h; exact c17 _ _ _)
  | clas a => cases nt' <;> first | (cases h; done) | (cases h; exact c18 _ _)
  | part => cases nt' <;> first | (cases h; done) | exact c19
  | enu m a => cases nt' <;> first | (cases h; done) | (cases h; exact c20 _ _ _)
  | namespac a => cases nt' <;> first | (cases h; done) | (cases h; exact c21 _ _)
  | typed => cases nt' <;> first | (cases h; done) | exact c22
  | rows => cases nt' <;> first | (cases h; done) | exact c23
  | plain => cases nt' <;> first | (cases h; done) | exact c24
  | arrowType => cases nt' <;> first | (cases h; done) | exact c25
  | ref => cases nt' <;> first | (cases h; done) | exact c26
  | refs w => cases nt' <;> first | (cases h; done) | (cases h; exact c27 _)
  | args => cases nt' <;> first | (cases h; done) | exact c28
  | optional => cases nt' <;> first | (cases h; done) | exact c29
  | objectType => cases nt' <;> first | (cases h; done) | exact c30
  | piece => cases nt' <;> first | (cases h; done) | exact c31
  | params w => cases nt' <;> first | (cases h; done) | (cases h; exact c32 _)
theorem run_rel {K n whole : Nat} : Rel rP (runM K (gr K n) whole) (runM K (gr K n) whole) := by
 have hg := ge_gr K n
 unfold runM
 refine rel_bifb rfl ?_ (rel_bifb rfl ?_ ?_)
 · rw [M.assoc]
   exact Rel.bind ((e_C hg).2.2.2.2.2.2.2.2.2.2.1 0 0 _ _ _ rfl) fun l l' h => by
    rw [M.pureb, M.pureb]
    exact rel_now fun _ _ _ _ _ _ => rel_bif rfl rel_fail (rel_pure (by simp only [rP, erP]; rw [h]))
 · exact Rel.bind (hg .expr .expr rfl) fun x y h => rel_now fun _ _ _ _ _ _ => rel_bif rfl rel_fail (rel_pure h)
 exact Rel.bind (hg .typed .typed rfl) fun x y h => rel_now fun _ _ _ _ _ _ => rel_bif rfl rel_fail (rel_pure h)
end Go.Px

namespace Go.Proofs
open Go.Px
def sh (d : Nat) (t : Tk) : Tk := bif t.kind == 0 then t else ⟨t.kind, t.text, (d : Int) + t.pos, (d : Int) + t.en⟩
section
variable {w l : Bs}
theorem sh_drop (i : Nat) : (w ++ l).drop (w.length + i) = l.drop i := by
 rw [List.drop_append, List.drop_eq_nil_of_le (by omega), List.nil_append, Nat.add_sub_cancel_left]
theorem sh_get (i : Nat) : (w ++ l)[w.length + i]? = l[i]? := by rw [List.getElem?_append_right (by omega), Nat.add_sub_cancel_left]
theorem sh_len (i : Nat) : (w ++ l).length - (w.length + i) = l.length - i := by rw [List.length_append]; omega
theorem sh_has (i : Nat) (x : Bs) : hasB (w ++ l) (w.length + i) x = hasB l i x := by unfold hasB; rw [sh_drop]
theorem sh_run (p : UInt8 → Bool) (i : Nat) : runOf p (w ++ l) (w.length + i) = runOf p l i := by unfold runOf; rw [sh_drop]
theorem sh_blanks : ∀ (k i : Nat), blanksK (w ++ l) k (w.length + i) = (blanksK l k i).map fun p => (p.1, w.length + p.2)
 | 0, i => rfl
 | k + 1, i => by
  rw [blanksK, blanksK, sh_get]
  cases l[i]? with
  | none => rfl
  | some c =>
   dsimp only
   rw [sh_has, sh_has, sh_run, Nat.add_assoc w.length i 1, sh_blanks k, Nat.add_assoc w.length i (runOf _ l i), sh_blanks k, Nat.add_assoc w.length i 2, sh_drop]
   rw [Nat.add_assoc w.length i, Nat.add_assoc w.length, sh_blanks k]
   cases blankB c <;> cases hasB l i [47, 47] <;> cases hasB l i [47, 42] <;> cases decide (Lib.index (l.drop (i + 2)) [42, 47] < 0) <;> rfl
theorem sh_cut (k : Int) (hk : k ≠ 0) (i j : Nat) : cutT (w ++ l) k (w.length + i) (w.length + j) = sh w.length (cutT l k i j) := by
 unfold cutT sh
 rw [sh_drop, Nat.add_sub_add_left, show ((⟨k, (l.drop i).take (j - i), (i : Int), (j : Int)⟩ : Tk).kind == 0) = false by simpa using hk]
 rfl
theorem sh_word (i : Nat) : wordT (w ++ l) (w.length + i) = sh w.length (wordT l i) := by
 unfold wordT
 dsimp only
 rw [sh_run, Nat.add_assoc, sh_cut 1 (by decide)]
 have e : (sh w.length (cutT l 1 i (i + runOf (fun c => letterB c || digitB c) l i))).text = (cutT l 1 i (i + runOf (fun c => letterB c || digitB c) l i)).text := rfl
 rw [e]
 cases reservedB (cutT l 1 i (i + runOf (fun c => letterB c || digitB c) l i)).text <;> rfl
theorem sh_letter (j : Nat) : letterAt (w ++ l) (w.length + j) = letterAt l j := by unfold letterAt; rw [sh_get]
theorem sh_number (i : Nat) : numberT (w ++ l) (w.length + i) = sh w.length (numberT l i) := by
 unfold numberT
 dsimp only
 rw [sh_run, Nat.add_assoc, sh_cut 3 (by decide), sh_drop, Nat.add_sub_add_left, sh_get, sh_letter]
 rw [show decide (w.length + (i + runOf digitB l i) > w.length + i + 1) = decide (i + runOf digitB l i > i + 1) by rw [decide_eq_decide]; omega]
 cases decide (numV ((l.drop i).take (i + runOf digitB l i - i)) > 9007199254740991) <;> cases ((l[i]? == some 48) && decide (i + runOf digitB l i > i + 1)) <;> cases letterAt l (i + runOf digitB l i) <;> rfl
theorem sh_dec (i : Nat) : decodeB (w ++ l) (w.length + i) = decodeB l i := by
 unfold decodeB
 rw [sh_get, Nat.add_assoc, sh_drop, sh_len]
theorem sh_hexRun : ∀ (n k v : Nat), hexRun (w ++ l) n (w.length + k) v = (w.length + (hexRun l n k v).1, (hexRun l n k v).2)
 | 0, k, v => rfl
 | n + 1, k, v => by
  rw [hexRun, hexRun, sh_get]
  cases l[k]? with
  | none => rfl
  | some c =>
   dsimp only
   cases hexD c with
   | none => rfl
   | some d => exact sh_hexRun n (k + 1) _
theorem sh_hexed (i : Nat) : hexedB (w ++ l) (w.length + i) = (hexedB l i).map fun p => (w.length + p.1, p.2) := by
 unfold hexedB
 dsimp only
 rw [Nat.add_assoc, sh_has, Nat.add_assoc, sh_hexRun]
 dsimp only
 rw [sh_has, show (w.length + (hexRun l 6 (i + 3) 0).1 == w.length + (i + 3)) = ((hexRun l 6 (i + 3) 0).1 == i + 3) by rw [Bool.eq_iff_iff]; simp]
 cases !hasB l (i + 2) [123] with
 | true => rfl
 | false =>
  dsimp only [cond_false]
  cases ((hexRun l 6 (i + 3) 0).1 == i + 3 || !hasB l (hexRun l 6 (i + 3) 0).1 [125] || decide ((hexRun l 6 (i + 3) 0).2 > 1114111) || (decide ((hexRun l 6 (i + 3) 0).2 ≥ 55296) && decide ((hexRun l 6 (i + 3) 0).2 ≤ 57343))) <;> rfl
theorem sh_rune (i : Nat) : rune1B (w ++ l) (w.length + i) = (rune1B l i).map fun p => (w.length + p.1, p.2) := by
 unfold rune1B
 rw [sh_get, sh_dec, sh_hexed, Nat.add_assoc w.length i 1, sh_get]
 cases l[i]? with
 | none => rfl
 | some c =>
  dsimp only
  cases (c != 92) with
  | true => simp only [cond_true, Option.map_some, Nat.add_assoc]
  | false =>
   dsimp only [cond_false]
   cases l[i + 1]? with
   | none => rfl
   | some d =>
    dsimp only
    cases (d == 110) <;> cases (d == 114) <;> cases (d == 116) <;> cases (d == 48) <;> cases (d == 92 || d == 34 || d == 39 || d == 36 || d == 96) <;> cases (d == 117) <;> rfl
theorem sh_quoted {at_ : Nat} {q : UInt8} : ∀ (k i : Nat) (out : Bs), quotedK (w ++ l) (w.length + at_) q k (w.length + i) out = (quotedK l at_ q k i out).map (sh w.length)
 | 0, i, out => rfl
 | k + 1, i, out => by
  rw [quotedK, quotedK, sh_get, sh_rune]
  cases l[i]? with
  | none => rfl
  | some c =>
   dsimp only
   cases (c == q) with
   | true => show some _ = some _; congr 1
   | false =>
    cases (c == 10 || c == 13) with
    | true => rfl
    | false =>
     dsimp only [cond_false]
     cases rune1B l i with
     | none => rfl
     | some p => obtain ⟨j, o⟩ := p; exact sh_quoted k j (out ++ o)
theorem sh_piece {at_ : Nat} {ends goes : Int} (he : ends ≠ 0) (hg : goes ≠ 0) : ∀ (k i : Nat) (out : Bs), pieceK (w ++ l) (w.length + at_) ends goes k (w.length + i) out = (pieceK l at_ ends goes k i out).map (sh w.length)
 | 0, i, out => rfl
 | k + 1, i, out => by
  rw [pieceK, pieceK, sh_get, sh_rune, sh_has]
  cases l[i]? with
  | none => rfl
  | some c =>
   dsimp only
   cases (c == 96) with
   | true =>
    show some _ = some (sh _ _)
    unfold sh
    rw [show ((⟨ends, out, (at_ : Int), (i : Int) + 1⟩ : Tk).kind == 0) = false by simpa using he]; rfl
   | false =>
    cases hasB l i [36, 123] with
    | true =>
     show some _ = some (sh _ _)
     unfold sh
     rw [show ((⟨goes, out, (at_ : Int), (i : Int) + 2⟩ : Tk).kind == 0) = false by simpa using hg]; rfl
    | false =>
     dsimp only [cond_false]
     cases rune1B l i with
     | none => rfl
     | some p => obtain ⟨j, o⟩ := p; exact sh_piece he hg k j (out ++ o)
theorem sh_sign (i : Nat) : ∀ ss : List (Nat × Bs), signL (w ++ l) (w.length + i) ss = sh w.length (signL l i ss)
 | [] => rfl
 | (n, s) :: rest => by
  rw [signL, signL, sh_len, sh_sign i rest]
  dsimp only
  rw [Nat.add_assoc, sh_cut 9 (by decide)]
  have e : (sh w.length (cutT l 9 i (i + n))).text = (cutT l 9 i (i + n)).text := rfl
  rw [e]
  cases decide (l.length - i < n) <;> cases ((cutT l 9 i (i + n)).text.any blankB || !Lib.contains s ([32] ++ (cutT l 9 i (i + n)).text ++ [32])) <;> rfl
theorem sh_kind (d : Nat) (t : Tk) : (sh d t).kind = t.kind ∧ (sh d t).text = t.text := by
 unfold sh; cases (t.kind == 0) <;> exact ⟨rfl, rfl⟩
theorem sh_token (K i : Nat) (op : List Bool) : tokenK (w ++ l) K (w.length + i) op = (tokenK l K i op).map fun p => (sh w.length p.1, p.2) := by
 rw [tokenK, tokenK, sh_get]
 cases l[i]? with
 | none => rfl
 | some c =>
  dsimp only
  rw [sh_word, sh_number, Nat.add_assoc w.length i 1, sh_quoted, sh_piece (by decide) (by decide), sh_piece (by decide) (by decide), sh_sign]
  cases letterB c with
  | true => rfl
  | false =>
  cases digitB c with
  | true => rfl
  | false =>
  cases (c == 34 || c == 39) with
  | true => cases quotedK l i c K (i + 1) [] <;> rfl
  | false =>
  cases (c == 96) with
  | true =>
   cases pieceK l i 5 6 K (i + 1) [] with
   | none => rfl
   | some t => show some (_, bif (sh _ t).kind == 6 then _ else _) = some (_, _); rw [(sh_kind _ t).1]
  | false =>
  cases (c == 125 && op.head?.getD false) with
  | true =>
   cases pieceK l i 8 7 K (i + 1) [] with
   | none => rfl
   | some t => show some (_, bif (sh _ t).kind == 8 then _ else _) = some (_, _); rw [(sh_kind _ t).1]
  | false =>
   show some (_, bif (sh _ _).text == [123] then _ else bif (sh _ _).text == [125] then _ else _) = some (_, _)
   rw [(sh_kind _ _).2]
def shN (d : Nat) : Nx → Nx
 | .tok t j op => .tok (sh d t) (d + j) op
 | .bad a => .bad ((d : Int) + a)
theorem sh_next (K i : Nat) (op : List Bool) (hi : i ≤ l.length) : nextK (w ++ l) K (w.length + i) op = (nextK l K i op).map (shN w.length) := by
 unfold nextK
 rw [sh_blanks]
 rcases hb : blanksK l K i with _ | ⟨b, j⟩
 · rfl
 have hj := blanksK_le hb hi
 cases b with
 | false => rfl
 | true =>
  dsimp only [Option.map_some]
  rw [show decide (w.length + j = (w ++ l).length) = decide (j = l.length) by rw [decide_eq_decide, List.length_append]; omega, sh_token]
  cases hd : decide (j = l.length) with
  | true => rfl
  | false =>
   dsimp only [cond_false]
   rcases ht : tokenK l K j op with _ | ⟨t, op'⟩
   · rfl
   dsimp only [Option.map_some]
   rw [(sh_kind _ t).1]
   cases g : (t.kind == 0) with
   | true => rfl
   | false =>
    have h0 : 0 ≤ t.en := by
     rcases token_f ht with h | ⟨_, _, e, he, _⟩
     · rw [h] at g; cases g
     omega
    show some (Nx.tok _ ((sh w.length t).en).toNat _) = some (Nx.tok _ (w.length + t.en.toNat) _)
    congr 2
    unfold sh
    rw [g]
    show ((w.length : Int) + t.en).toNat = _
    omega
def SR (d : Nat) (acc acc' : List Tk) : Option (List Tk ⊕ (Int × Int)) → Option (List Tk ⊕ (Int × Int)) → Prop
 | some (.inl ts), x => ∃ r, ts = acc ++ r ∧ x = some (.inl (acc' ++ r.map (sh d)))
 | some (.inr _), x => ∃ e, x = some (.inr e)
 | none, x => x = none
theorem sh_tokens {K : Nat} : ∀ (k n i : Nat) (op : List Bool) (acc acc' : List Tk), i ≤ l.length → SR w.length acc acc' (tokensK l K k n i op acc) (tokensK (w ++ l) K k n (w.length + i) op acc')
 | 0, n, i, op, acc, acc', hi => rfl
 | k + 1, n, i, op, acc, acc', hi => by
  rw [tokensK, tokensK, sh_next K i op hi]
  rcases hn : nextK l K i op with _ | ⟨t, j, op'⟩ | a
  rotate_left 2
  · exact ⟨_, rfl⟩
  · exact rfl
  dsimp only [Option.map_some, shN]
  rw [(sh_kind _ t).1]
  cases (n == 8192 && t.kind != 10) with
  | true => exact ⟨_, rfl⟩
  | false =>
   dsimp only [cond_false]
   cases (t.kind == 10) with
   | true => exact ⟨[t], rfl, rfl⟩
   | false =>
    dsimp only [cond_false]
    have h := sh_tokens (K := K) k (n + 1) j op' (acc ++ [t]) (acc' ++ [sh w.length t]) (next_ok9 hn hi).2.1
    rcases hr : tokensK l K k (n + 1) j op' (acc ++ [t]) with _ | ts | e
    · rw [hr] at h; exact h
    · rw [hr] at h
      obtain ⟨r, h1, h2⟩ := h
      exact ⟨t :: r, by rw [h1]; simp, by rw [h2]; simp⟩
    rw [hr] at h; exact h
end
end Go.Proofs

namespace Go.Proofs
open Go.Px
theorem tw_pre {f : UInt8 → Bool} {v v' : Bs} : ∀ {a : Bs}, ((a ++ v).takeWhile f).length < a.length → (a ++ v').takeWhile f = (a ++ v).takeWhile f
 | [], h => by simp at h
 | c :: a, h => by
  rw [List.cons_append, List.takeWhile_cons] at h ⊢
  rw [List.cons_append, List.takeWhile_cons]
  cases hc : f c with
  | false => rfl
  | true =>
   rw [hc] at h
   simp only [if_true, List.length_cons] at h ⊢
   rw [tw_pre (v := v) (v' := v') (by omega)]
theorem tw_pre2 {f : UInt8 → Bool} (hf : f 32 = false) {v r : Bs} : ∀ {a : Bs}, ((a ++ v).takeWhile f).length ≤ a.length → (a ++ 32 :: r).takeWhile f = (a ++ v).takeWhile f
 | [], h => by
  have h : (v.takeWhile f).length ≤ 0 := h
  rw [List.nil_append, List.nil_append, List.takeWhile_cons, hf, List.eq_nil_of_length_eq_zero (Nat.le_zero.1 h)]; rfl
 | c :: a, h => by
  rw [List.cons_append, List.takeWhile_cons] at h ⊢
  rw [List.cons_append, List.takeWhile_cons]
  cases hc : f c with
  | false => rfl
  | true =>
   rw [hc] at h
   simp only [if_true, List.length_cons] at h ⊢
   rw [tw_pre2 hf (v := v) (r := r) (by omega)]
theorem occ_take {s x : Bs} {i : Nat} : Lib.occAt s x i = decide ((s.drop i).take x.length = x) := by
 unfold Lib.occAt
 rw [Bool.eq_iff_iff, List.isPrefixOf_iff_prefix, decide_eq_true_eq, List.prefix_iff_eq_take]
 exact eq_comm
theorem index_pre {a v v' x : Bs} {q : Nat} (h : Lib.index (a ++ v) x = (q : Int)) (hq : q + x.length ≤ a.length) : Lib.index (a ++ v') x = (q : Int) := by
 have hocc : ∀ (v : Bs) (i : Nat), i + x.length ≤ a.length → Lib.occAt (a ++ v) x i = decide ((a.drop i).take x.length = x) := fun v i hi => by
  rw [occ_take, List.drop_append_of_le_length (by omega), List.take_append_of_le_length (by rw [List.length_drop]; omega)]
 rcases Lib.index_spec (a ++ v) x with ⟨h1, _⟩ | ⟨i, h1, h2, h3, h4⟩
 · omega
 obtain rfl : i = q := by omega
 rw [hocc v i hq] at h3
 rcases Lib.index_spec (a ++ v') x with ⟨h5, h6⟩ | ⟨j, h5, h6, h7, h8⟩
 · have := h6 i (by rw [List.length_append]; omega)
   rw [hocc v' i hq, h3] at this; cases this
 have h9 : j ≤ i := by
  rcases Nat.lt_or_ge i j with h9 | h9
  · have := h8 i h9
    rw [hocc v' i hq, h3] at this; cases this
  exact h9
 have h10 : i ≤ j := by
  rcases Nat.lt_or_ge j i with h10 | h10
  · have := h4 j h10
    rw [hocc v j (by omega)] at this
    rw [hocc v' j (by omega), this] at h7; cases h7
  exact h10
 rw [h5]; congr 1; omega
section
variable {u v r : Bs}
theorem pre_get {v : Bs} {i : Nat} (h : i < u.length) : (u ++ v)[i]? = u[i]? := List.getElem?_append_left h
theorem pre_drop {v : Bs} {i : Nat} (h : i ≤ u.length) : (u ++ v).drop i = u.drop i ++ v := List.drop_append_of_le_length h
theorem pre_take {v : Bs} {i n : Nat} (h : i + n ≤ u.length) : ((u ++ v).drop i).take n = (u.drop i).take n := by
 rw [pre_drop (by omega), List.take_append_of_le_length (by rw [List.length_drop]; omega)]
theorem cross {i n : Nat} (h : i ≤ u.length) (hn : u.length < i + n) : (32 : UInt8) ∈ ((u ++ 32 :: r).drop i).take n := by
 rw [pre_drop h, List.mem_take_iff_getElem]
 refine ⟨u.length - i, ?_, ?_⟩
 · simp; omega
 rw [List.getElem_append_right (by simp)]
 simp
theorem has_pre {i : Nat} {x : Bs} (h : i ≤ u.length) (hx : (32 : UInt8) ∉ x) : hasB (u ++ 32 :: r) i x = (decide (i + x.length ≤ u.length) && hasB (u ++ v) i x) := by
 unfold hasB
 by_cases hl : i + x.length ≤ u.length
 · rw [pre_take hl, pre_take hl, decide_eq_true hl, Bool.true_and]
 rw [decide_eq_false hl, Bool.false_and]
 have := cross (r := r) h (n := x.length) (by omega)
 rw [beq_eq_false_iff_ne]
 intro e
 rw [e] at this
 exact hx this
theorem has_room {i : Nat} {x : Bs} (hx : hasB (u ++ v) i x = true) (h : i + x.length ≤ u.length) (h32 : (32 : UInt8) ∉ x) : hasB (u ++ 32 :: r) i x = true := by
 rw [has_pre (v := v) (by omega) h32, hx, decide_eq_true h]; rfl
theorem has_none {i : Nat} {x : Bs} (hx : hasB (u ++ v) i x = false) (h : i ≤ u.length) (h32 : (32 : UInt8) ∉ x) : hasB (u ++ 32 :: r) i x = false := by
 rw [has_pre (v := v) h h32, hx, Bool.and_false]
theorem run_pre {f : UInt8 → Bool} {i : Nat} (hi : i ≤ u.length) (h : i + runOf f (u ++ v) i < u.length) : runOf f (u ++ 32 :: r) i = runOf f (u ++ v) i := by
 unfold runOf at *
 rw [pre_drop hi] at h ⊢
 rw [pre_drop hi, tw_pre (v := v) (by rw [List.length_drop]; omega)]
theorem run_pre2 {f : UInt8 → Bool} (hf : f 32 = false) {i : Nat} (hi : i ≤ u.length) (h : i + runOf f (u ++ v) i ≤ u.length) : runOf f (u ++ 32 :: r) i = runOf f (u ++ v) i := by
 unfold runOf at *
 rw [pre_drop hi] at h ⊢
 rw [pre_drop hi, tw_pre2 hf (v := v) (by rw [List.length_drop]; omega)]
theorem ind_pre {i q : Nat} {x : Bs} (hi : i ≤ u.length) (h : Lib.index ((u ++ v).drop i) x = (q : Int)) (hq : i + q + x.length ≤ u.length) : Lib.index ((u ++ 32 :: r).drop i) x = (q : Int) := by
 rw [pre_drop hi] at h ⊢
 exact index_pre h (by rw [List.length_drop]; omega)
theorem blanks_pre : ∀ {k i j : Nat}, blanksK (u ++ v) k i = some (true, j) → j < u.length → blanksK (u ++ 32 :: r) k i = some (true, j)
 | 0, i, j, h, hj => by cases h
 | k + 1, i, j, h, hj => by
  by_cases hi : (u ++ v).length < i
  · rw [blanksK, List.getElem?_eq_none (by omega)] at h
    injection h with h; injection h with _ h
    rw [List.length_append] at hi; omega
  have hij := (blanksK_le h (by omega)).1
  rw [blanksK, pre_get (by omega)] at h ⊢
  rcases hc : u[i]? with _ | c
  · have := List.getElem?_eq_none_iff.1 hc; omega
  rw [hc] at h
  dsimp only at h ⊢
  cases g1 : blankB c with
  | true => rw [g1] at h; exact blanks_pre (by simpa using h) hj
  | false =>
   rw [g1] at h
   simp only [cond_false] at h ⊢
   cases g2 : hasB (u ++ v) i [47, 47] with
   | true =>
    rw [g2] at h
    simp only [cond_true] at h
    have hl := hasB_len g2 (by decide)
    have hr := runOf_le (fun c => c != 10) (u ++ v) i (by simp at hl ⊢; omega)
    have h2 := (blanksK_le h hr).1
    have h3 : 2 ≤ runOf (fun c => c != 10) (u ++ v) i := by
     have h4 : ((u ++ v).drop i).take 2 = [47, 47] := by unfold hasB at g2; simpa using g2
     unfold runOf
     obtain ⟨z, hz⟩ : ∃ z, (u ++ v).drop i = 47 :: 47 :: z := by
      rcases h5 : (u ++ v).drop i with _ | ⟨a, _ | ⟨b, z⟩⟩ <;> rw [h5] at h4
      · cases h4
      · cases h4
      have h4 : [a, b] = [47, 47] := h4
      injection h4 with e1 e2; injection e2 with e2; subst e1 e2; exact ⟨z, rfl⟩
     rw [hz, List.takeWhile_cons, if_pos (by decide), List.takeWhile_cons, if_pos (by decide), List.length_cons, List.length_cons]; omega
    rw [has_room g2 (by simp; omega) (by decide), run_pre (v := v) (by omega) (by omega)]
    exact blanks_pre h hj
   | false =>
    rw [g2] at h
    simp only [cond_false] at h
    rw [has_none g2 (by omega) (by decide)]
    simp only [cond_false]
    cases g3 : hasB (u ++ v) i [47, 42] with
    | false =>
     rw [g3] at h
     rw [has_none g3 (by omega) (by decide)]
     exact h
    | true =>
     rw [g3] at h
     simp only [cond_true] at h
     cases g4 : decide (Lib.index ((u ++ v).drop (i + 2)) [42, 47] < 0) with
     | true => rw [g4] at h; injection h with h; injection h with h; cases h
     | false =>
      rw [g4] at h
      simp only [cond_false] at h
      have hl := hasB_len g3 (by decide)
      have hrm := Lib.index_room ((u ++ v).drop (i + 2)) [42, 47] (by simpa using g4)
      simp only [List.length_drop, List.length_cons, List.length_nil] at hrm hl
      obtain ⟨q, hq⟩ : ∃ q : Nat, Lib.index ((u ++ v).drop (i + 2)) [42, 47] = (q : Int) := ⟨(Lib.index ((u ++ v).drop (i + 2)) [42, 47]).toNat, by have := (decide_eq_false_iff_not.1 g4); omega⟩
      rw [hq] at h hrm
      have h2 := (blanksK_le h (by omega)).1
      rw [has_room g3 (by simp; omega) (by decide), ind_pre (by omega) hq (by simp; omega)]
      rw [show decide ((q : Int) < 0) = false by simp]
      exact blanks_pre h hj
theorem cont_none : ∀ {l : Bs} {x : Nat}, (32 : UInt8) ∈ l → contR l x = none
 | [], x, h => by cases h
 | c :: l, x, h => by
  rw [contR]
  rcases List.mem_cons.1 h with rfl | h
  · rfl
  cases decide (c.toNat / 64 = 2) with
  | true => exact cont_none h
  | false => rfl
theorem dec_pre {i : Nat} (hi : i < u.length) (h : i + (decodeB (u ++ v) i).2 ≤ u.length) : decodeB (u ++ 32 :: r) i = decodeB (u ++ v) i := by
 unfold decodeB at h ⊢
 rw [pre_get hi] at h ⊢
 rw [pre_get hi]
 rcases hc : u[i]? with _ | c
 · rfl
 rw [hc] at h
 dsimp only at h ⊢
 by_cases hw : i + (wideB c).1 ≤ u.length
 · rw [show decide ((wideB c).1 > (u ++ 32 :: r).length - i) = false by rw [decide_eq_false_iff_not, List.length_append]; omega, show decide ((wideB c).1 > (u ++ v).length - i) = false by rw [decide_eq_false_iff_not, List.length_append]; omega]
   cases g : ((wideB c).1 == 0) with
   | true => rfl
   | false =>
    have g : (wideB c).1 ≠ 0 := by simpa using g
    rw [pre_take (by omega), pre_take (by omega)]
 have h1 : (bif (wideB c).1 == 0 || decide ((wideB c).1 > (u ++ 32 :: r).length - i) then ((65533, 1) : Nat × Nat) else match contR (((u ++ 32 :: r).drop (i + 1)).take ((wideB c).1 - 1)) (wideB c).2 with | none => (65533, 1) | some r => bif fitsB r (wideB c).1 then (r, (wideB c).1) else (65533, 1)) = (65533, 1) := by
  cases ((wideB c).1 == 0 || decide ((wideB c).1 > (u ++ 32 :: r).length - i)) with
  | true => rfl
  | false => rw [cont_none (cross (by omega) (by omega))]; rfl
 refine h1.trans ?_
 revert h
 cases ((wideB c).1 == 0 || decide ((wideB c).1 > (u ++ v).length - i)) with
 | true => intro _; rfl
 | false =>
  dsimp only [cond_false]
  cases contR (((u ++ v).drop (i + 1)).take ((wideB c).1 - 1)) (wideB c).2 with
  | none => intro _; rfl
  | some x =>
   dsimp only
   cases fitsB x (wideB c).1 with
   | true => intro h; exact absurd h hw
   | false => intro _; rfl
theorem hex_le (l : Bs) : ∀ (n k x : Nat), k ≤ (hexRun l n k x).1
 | 0, k, x => Nat.le_refl _
 | n + 1, k, x => by
  rw [hexRun]
  cases l[k]? with
  | none => exact Nat.le_refl _
  | some c =>
   dsimp only
   cases hexD c with
   | none => exact Nat.le_refl _
   | some d => exact Nat.le_trans (Nat.le_succ k) (hex_le l n (k + 1) _)
theorem hex_pre : ∀ (n k x : Nat), (hexRun (u ++ v) n k x).1 < u.length → hexRun (u ++ 32 :: r) n k x = hexRun (u ++ v) n k x
 | 0, k, x, h => rfl
 | n + 1, k, x, h => by
  have hk := hex_le (u ++ v) (n + 1) k x
  have hkl : k < u.length := by omega
  rw [hexRun] at h ⊢
  rw [hexRun, pre_get hkl]
  rw [pre_get hkl] at h ⊢
  cases hc : u[k]? with
  | none => rfl
  | some c =>
   rw [hc] at h
   dsimp only at h ⊢
   cases hd : hexD c with
   | none => rfl
   | some d => rw [hd] at h; exact hex_pre n (k + 1) _ h
theorem hexed_pre {i j : Nat} {o : Bs} (h : hexedB (u ++ v) i = some (j, o)) (hj : j ≤ u.length) : hexedB (u ++ 32 :: r) i = some (j, o) := by
 unfold hexedB at h ⊢
 dsimp only at h ⊢
 cases g1 : hasB (u ++ v) (i + 2) [123] <;> rw [g1] at h
 case false => cases h
 simp only [Bool.not_true, cond_false] at h
 cases g2 : ((hexRun (u ++ v) 6 (i + 3) 0).1 == i + 3 || !hasB (u ++ v) (hexRun (u ++ v) 6 (i + 3) 0).1 [125] || decide ((hexRun (u ++ v) 6 (i + 3) 0).2 > 1114111) || (decide ((hexRun (u ++ v) 6 (i + 3) 0).2 ≥ 55296) && decide ((hexRun (u ++ v) 6 (i + 3) 0).2 ≤ 57343))) <;> rw [g2] at h
 case true => cases h
 simp only [cond_false, Option.some.injEq, Prod.mk.injEq] at h
 obtain ⟨h1, h2⟩ := h
 have hle := hex_le (u ++ v) 6 (i + 3) 0
 have g3 : hasB (u ++ v) (hexRun (u ++ v) 6 (i + 3) 0).1 [125] = true := by
  simp only [Bool.or_eq_false_iff] at g2
  simpa using g2.1.1.2
 rw [has_room g1 (by simp; omega) (by decide), hex_pre (v := v) 6 (i + 3) 0 (by omega), has_room g3 (by simp; omega) (by decide)]
 rw [g3] at g2
 rw [g2]
 simp only [Bool.not_true, cond_false, Option.some.injEq, Prod.mk.injEq]
 exact ⟨h1, h2⟩
theorem rune_pre {i j : Nat} {o : Bs} (h : rune1B (u ++ v) i = some (j, o)) (hj : j ≤ u.length) : rune1B (u ++ 32 :: r) i = some (j, o) := by
 have hij := rune1B_ok h
 unfold rune1B at h ⊢
 rw [pre_get (by omega)] at h ⊢
 rcases hc : u[i]? with _ | c
 · rw [hc] at h; cases h
 rw [hc] at h
 dsimp only at h ⊢
 cases g : (c != 92) with
 | true =>
  rw [g] at h
  simp only [cond_true, Option.some.injEq, Prod.mk.injEq] at h ⊢
  rw [dec_pre (by omega) (by rw [h.1]; exact hj)]
  exact h
 | false =>
  rw [g] at h
  simp only [cond_false] at h ⊢
  have h1 : i + 1 < u.length := by
   rcases hd : (u ++ v)[i + 1]? with _ | d
   · rw [hd] at h; cases h
   rw [hd] at h
   dsimp only at h
   rcases g1 : (d == 110) with _ | _ <;> rw [g1] at h
   case true => simp only [cond_true, Option.some.injEq, Prod.mk.injEq] at h; omega
   rcases g2 : (d == 114) with _ | _ <;> rw [g2] at h
   case true => simp only [cond_true, cond_false, Option.some.injEq, Prod.mk.injEq] at h; omega
   rcases g3 : (d == 116) with _ | _ <;> rw [g3] at h
   case true => simp only [cond_true, cond_false, Option.some.injEq, Prod.mk.injEq] at h; omega
   rcases g4 : (d == 48) with _ | _ <;> rw [g4] at h
   case true => simp only [cond_true, cond_false, Option.some.injEq, Prod.mk.injEq] at h; omega
   rcases g5 : (d == 92 || d == 34 || d == 39 || d == 36 || d == 96) with _ | _ <;> rw [g5] at h
   case true => simp only [cond_true, cond_false, Option.some.injEq, Prod.mk.injEq] at h; omega
   rcases g6 : (d == 117) with _ | _ <;> rw [g6] at h
   case false => simp only [cond_false] at h; cases h
   simp only [cond_true, cond_false] at h
   unfold hexedB at h
   dsimp only at h
   rcases g7 : hasB (u ++ v) (i + 2) [123] with _ | _ <;> rw [g7] at h
   case false => cases h
   simp only [Bool.not_true, cond_false] at h
   have hle := hex_le (u ++ v) 6 (i + 3) 0
   revert h
   generalize ((hexRun (u ++ v) 6 (i + 3) 0).1 == i + 3 || !hasB (u ++ v) (hexRun (u ++ v) 6 (i + 3) 0).1 [125] || decide ((hexRun (u ++ v) 6 (i + 3) 0).2 > 1114111) || (decide ((hexRun (u ++ v) 6 (i + 3) 0).2 ≥ 55296) && decide ((hexRun (u ++ v) 6 (i + 3) 0).2 ≤ 57343))) = b
   cases b with
   | true => intro h; cases h
   | false => intro h; simp only [cond_false, Option.some.injEq, Prod.mk.injEq] at h; omega
  rw [pre_get h1] at h ⊢
  rcases hd : u[i + 1]? with _ | d
  · rw [hd] at h; cases h
  rw [hd] at h
  dsimp only at h ⊢
  cases g1 : (d == 110) <;> rw [g1] at h
  case true => exact h
  cases g2 : (d == 114) <;> rw [g2] at h
  case true => exact h
  cases g3 : (d == 116) <;> rw [g3] at h
  case true => exact h
  cases g4 : (d == 48) <;> rw [g4] at h
  case true => exact h
  cases g5 : (d == 92 || d == 34 || d == 39 || d == 36 || d == 96) <;> rw [g5] at h
  case true => exact h
  cases g6 : (d == 117) <;> rw [g6] at h
  case false => exact h
  simp only [cond_true, cond_false] at h ⊢
  exact hexed_pre h hj
theorem quoted_pre {at_ : Nat} {q : UInt8} : ∀ {k i : Nat} {out : Bs} {t : Tk}, quotedK (u ++ v) at_ q k i out = some t → t.kind ≠ 0 → t.en ≤ (u.length : Int) → quotedK (u ++ 32 :: r) at_ q k i out = some t
 | 0, i, out, t, h, h0, he => by cases h
 | k + 1, i, out, t, h, h0, he => by
  obtain ⟨_, _, e, h1, h2, _⟩ := (quoted_f h).resolve_left h0
  rw [quotedK, pre_get (by omega)] at h ⊢
  rcases hc : u[i]? with _ | c
  · have := List.getElem?_eq_none_iff.1 hc; omega
  rw [hc] at h
  dsimp only at h ⊢
  cases g1 : (c == q) <;> rw [g1] at h
  case true => exact h
  cases g2 : (c == 10 || c == 13) <;> rw [g2] at h
  case true => exact h
  simp only [cond_false] at h ⊢
  rcases hr : rune1B (u ++ v) i with _ | ⟨j, o⟩ <;> rw [hr] at h
  · injection h with h; rw [← h] at h0; exact absurd rfl h0
  dsimp only at h
  obtain ⟨_, _, e', h3, h4, _⟩ := (quoted_f h).resolve_left h0
  rw [rune_pre hr (by omega)]
  exact quoted_pre h h0 he
theorem piece_pre {at_ : Nat} {ends goes : Int} : ∀ {k i : Nat} {out : Bs} {t : Tk}, pieceK (u ++ v) at_ ends goes k i out = some t → t.kind ≠ 0 → t.en ≤ (u.length : Int) → pieceK (u ++ 32 :: r) at_ ends goes k i out = some t
 | 0, i, out, t, h, h0, he => by cases h
 | k + 1, i, out, t, h, h0, he => by
  obtain ⟨_, _, e, h1, h2, _⟩ := (piece_f h).resolve_left h0
  rw [pieceK, pre_get (by omega)] at h ⊢
  rcases hc : u[i]? with _ | c
  · have := List.getElem?_eq_none_iff.1 hc; omega
  rw [hc] at h
  dsimp only at h ⊢
  cases g1 : (c == 96) <;> rw [g1] at h
  case true => exact h
  simp only [cond_false] at h ⊢
  cases g2 : hasB (u ++ v) i [36, 123] <;> rw [g2] at h
  case true =>
   simp only [cond_true, Option.some.injEq] at h
   subst h
   have he : (i : Int) + 2 ≤ u.length := he
   rw [has_room g2 (by simp; omega) (by decide)]
   rfl
  rw [has_none g2 (by omega) (by decide)]
  simp only [cond_false] at h ⊢
  rcases hr : rune1B (u ++ v) i with _ | ⟨j, o⟩ <;> rw [hr] at h
  · injection h with h; rw [← h] at h0; exact absurd rfl h0
  dsimp only at h
  obtain ⟨_, _, e', h3, h4, _⟩ := (piece_f h).resolve_left h0
  rw [rune_pre hr (by omega)]
  exact piece_pre h h0 he
theorem cut_pre {k : Int} {i j : Nat} (h : j ≤ u.length) (hij : i ≤ j) : cutT (u ++ 32 :: r) k i j = cutT (u ++ v) k i j := by
 unfold cutT; rw [pre_take (by omega), pre_take (by omega)]
theorem sign_pre {i : Nat} (hi : i < u.length) : ∀ {ss : List (Nat × Bs)}, (signL (u ++ v) i ss).kind ≠ 0 → (signL (u ++ v) i ss).en ≤ (u.length : Int) → signL (u ++ 32 :: r) i ss = signL (u ++ v) i ss
 | [], h0, he => absurd rfl h0
 | (n, s) :: rest, h0, he => by
  rw [signL] at h0 he ⊢
  rw [signL]
  by_cases hn : i + n ≤ u.length
  · rw [show decide ((u ++ v).length - i < n) = false by rw [decide_eq_false_iff_not, List.length_append]; omega] at h0 he ⊢
    rw [show decide ((u ++ 32 :: r).length - i < n) = false by rw [decide_eq_false_iff_not, List.length_append]; omega]
    dsimp only [cond_false] at h0 he ⊢
    rw [cut_pre (v := v) hn (by omega)]
    cases g : ((cutT (u ++ v) 9 i (i + n)).text.any blankB || !Lib.contains s ([32] ++ (cutT (u ++ v) 9 i (i + n)).text ++ [32])) <;> rw [g] at h0 he
    · rfl
    exact sign_pre hi h0 he
  have h1 : (bif decide ((u ++ 32 :: r).length - i < n) then signL (u ++ 32 :: r) i rest else bif (cutT (u ++ 32 :: r) 9 i (i + n)).text.any blankB || !Lib.contains s ([32] ++ (cutT (u ++ 32 :: r) 9 i (i + n)).text ++ [32]) then signL (u ++ 32 :: r) i rest else cutT (u ++ 32 :: r) 9 i (i + n)) = signL (u ++ 32 :: r) i rest := by
   cases decide ((u ++ 32 :: r).length - i < n) with
   | true => rfl
   | false =>
    have : (cutT (u ++ 32 :: r) 9 i (i + n)).text.any blankB = true := by
     rw [List.any_eq_true]
     exact ⟨32, by unfold cutT; rw [Nat.add_sub_cancel_left]; exact cross (by omega) (by omega), rfl⟩
    rw [this]; rfl
  refine h1.trans ?_
  dsimp only at h0 he ⊢
  cases g1 : decide ((u ++ v).length - i < n) <;> rw [g1] at h0 he
  case true => exact sign_pre hi h0 he
  simp only [cond_false] at h0 he ⊢
  cases g : ((cutT (u ++ v) 9 i (i + n)).text.any blankB || !Lib.contains s ([32] ++ (cutT (u ++ v) 9 i (i + n)).text ++ [32])) <;> rw [g] at h0 he
  · have he : ((i + n : Nat) : Int) ≤ u.length := he
    omega
  exact sign_pre hi h0 he
theorem letter_pre {j : Nat} (hj : j ≤ u.length) (h : letterAt (u ++ v) j = false) : letterAt (u ++ 32 :: r) j = false := by
 unfold letterAt at *
 rcases Nat.lt_or_ge j u.length with hj2 | hj2
 · rw [pre_get hj2] at h ⊢; exact h
 obtain rfl : j = u.length := by omega
 rw [List.getElem?_append_right (Nat.le_refl _), Nat.sub_self]; rfl
theorem number_pre {i : Nat} (hi : i < u.length) (h0 : (numberT (u ++ v) i).kind ≠ 0) (he : (numberT (u ++ v) i).en ≤ (u.length : Int)) : numberT (u ++ 32 :: r) i = numberT (u ++ v) i := by
 unfold numberT at *
 dsimp only at *
 cases h1 : decide (numV (((u ++ v).drop i).take (i + runOf digitB (u ++ v) i - i)) > 9007199254740991) <;> rw [h1] at h0 he
 case true => exact absurd rfl h0
 cases h2 : (((u ++ v)[i]? == some 48) && decide (i + runOf digitB (u ++ v) i > i + 1)) <;> rw [h2] at h0 he
 case true => exact absurd rfl h0
 cases h3 : letterAt (u ++ v) (i + runOf digitB (u ++ v) i) <;> rw [h3] at h0 he
 case true => exact absurd rfl h0
 simp only [cond_false] at he
 have he : ((i + runOf digitB (u ++ v) i : Nat) : Int) ≤ u.length := he
 have hr := run_pre2 (r := r) (f := digitB) (by decide) (by omega) (show i + runOf digitB (u ++ v) i ≤ u.length by omega)
 rw [hr, pre_take (by omega), letter_pre (by omega) h3, cut_pre (v := v) (by omega) (by omega), pre_get hi]
 rw [pre_take (by omega)] at h1
 rw [pre_get hi] at h2
 rw [h1, h2]
theorem word_pre {i : Nat} (hi : i < u.length) (he : (wordT (u ++ v) i).en ≤ (u.length : Int)) : wordT (u ++ 32 :: r) i = wordT (u ++ v) i := by
 have he : ((i + runOf (fun c => letterB c || digitB c) (u ++ v) i : Nat) : Int) ≤ u.length := by
  unfold wordT at he
  dsimp only at he
  cases g : reservedB (cutT (u ++ v) 1 i (i + runOf (fun c => letterB c || digitB c) (u ++ v) i)).text <;> rw [g] at he <;> exact he
 unfold wordT
 dsimp only
 rw [run_pre2 (r := r) (f := fun c => letterB c || digitB c) (by decide) (by omega) (show i + runOf (fun c => letterB c || digitB c) (u ++ v) i ≤ u.length by omega), cut_pre (v := v) (by omega) (by omega)]
theorem token_pre {K i : Nat} {op op' : List Bool} {t : Tk} (h : tokenK (u ++ v) K i op = some (t, op')) (hi : i < u.length) (h0 : t.kind ≠ 0) (he : t.en ≤ (u.length : Int)) : tokenK (u ++ 32 :: r) K i op = some (t, op') := by
 rw [tokenK, pre_get hi] at h ⊢
 rcases hc : u[i]? with _ | c
 · rw [hc] at h; cases h
 rw [hc] at h
 dsimp only at h ⊢
 cases g1 : letterB c <;> rw [g1] at h
 case true =>
  simp only [cond_true, Option.some.injEq, Prod.mk.injEq] at h ⊢
  obtain ⟨rfl, h2⟩ := h
  exact ⟨word_pre hi he, h2⟩
 simp only [cond_false] at h ⊢
 cases g2 : digitB c <;> rw [g2] at h
 case true =>
  simp only [cond_true, Option.some.injEq, Prod.mk.injEq] at h ⊢
  obtain ⟨rfl, h2⟩ := h
  exact ⟨number_pre hi h0 he, h2⟩
 simp only [cond_false] at h ⊢
 cases g3 : (c == 34 || c == 39) <;> rw [g3] at h
 case true =>
  simp only [cond_true] at h ⊢
  rcases hq : quotedK (u ++ v) i c K (i + 1) [] with _ | t0 <;> rw [hq] at h
  · cases h
  simp only [Option.map_some, Option.some.injEq, Prod.mk.injEq] at h
  obtain ⟨rfl, h2⟩ := h
  rw [quoted_pre hq h0 he, h2]; rfl
 simp only [cond_false] at h ⊢
 cases g4 : (c == 96) <;> rw [g4] at h
 case true =>
  simp only [cond_true] at h ⊢
  rcases hq : pieceK (u ++ v) i 5 6 K (i + 1) [] with _ | t0 <;> rw [hq] at h
  · cases h
  simp only [Option.map_some, Option.some.injEq, Prod.mk.injEq] at h
  obtain ⟨rfl, h2⟩ := h
  rw [piece_pre hq h0 he, ← h2]; rfl
 simp only [cond_false] at h ⊢
 cases g5 : (c == 125 && op.head?.getD false) <;> rw [g5] at h
 case true =>
  simp only [cond_true] at h ⊢
  rcases hq : pieceK (u ++ v) i 8 7 K (i + 1) [] with _ | t0 <;> rw [hq] at h
  · cases h
  simp only [Option.map_some, Option.some.injEq, Prod.mk.injEq] at h
  obtain ⟨rfl, h2⟩ := h
  rw [piece_pre hq h0 he, ← h2]; rfl
 simp only [cond_false, Option.some.injEq, Prod.mk.injEq] at h ⊢
 obtain ⟨rfl, h2⟩ := h
 rw [sign_pre hi h0 he]
 exact ⟨rfl, h2⟩
theorem next_pre {K i j : Nat} {op op' : List Bool} {t : Tk} (h : nextK (u ++ v) K i op = some (.tok t j op')) (hi : i ≤ (u ++ v).length) (hk : t.kind ≠ 10) (hj : j ≤ u.length) : nextK (u ++ 32 :: r) K i op = some (.tok t j op') := by
 rcases next_f h hi with ⟨h1, _⟩ | ⟨_, p, h2, ⟨_, h3, e, h4, h5, h6, _⟩, h7⟩
 · exact absurd h1 hk
 unfold nextK at h ⊢
 rcases hb : blanksK (u ++ v) K i with _ | ⟨b, m⟩ <;> rw [hb] at h
 · cases h
 cases b with
 | false => cases h
 | true =>
  dsimp only at h
  have hm := blanksK_le hb hi
  cases g : decide (m = (u ++ v).length) <;> rw [g] at h
  case true =>
   simp only [cond_true, Option.some.injEq, Nx.tok.injEq] at h
   rw [← h.1] at hk; exact absurd rfl hk
  simp only [cond_false] at h
  rcases ht : tokenK (u ++ v) K m op with _ | ⟨t0, op0⟩ <;> rw [ht] at h
  · cases h
  dsimp only at h
  cases g0 : (t0.kind == 0) <;> rw [g0] at h
  case true => cases h
  simp only [cond_false, Option.some.injEq, Nx.tok.injEq] at h
  obtain ⟨rfl, h8, h9⟩ := h
  have g0 : t0.kind ≠ 0 := by simpa using g0
  obtain ⟨_, hp, e2, he2, hlt2, _⟩ := (token_f ht).resolve_left g0
  rw [blanks_pre hb (by omega)]
  dsimp only
  rw [show decide (m = (u ++ 32 :: r).length) = false by rw [decide_eq_false_iff_not, List.length_append, List.length_cons]; omega, token_pre ht (by omega) g0 (by omega)]
  dsimp only [cond_false]
  rw [show (t0.kind == 0) = false by simpa using g0, h8, h9]
  rfl
end
end Go.Proofs

namespace Go.Proofs
open Go.Px
def gapB : Bool → Bs
 | false => [32, 10, 32]
 | true => [32, 47, 42, 32, 59, 32, 42, 47, 32]
def gapT : Bool → Bs
 | false => [10, 32]
 | true => [47, 42, 32, 59, 32, 42, 47, 32]
theorem gap_cons (m : Bool) (v : Bs) : gapB m ++ v = 32 :: (gapT m ++ v) := by cases m <;> rfl
theorem blanks_mono {l : Bs} : ∀ {k i : Nat} {r : Bool × Nat} (d : Nat), blanksK l k i = some r → blanksK l (k + d) i = some r
 | 0, i, r, d, h => by cases h
 | k + 1, i, r, d, h => by
  rw [show k + 1 + d = (k + d) + 1 by omega]
  rw [blanksK] at h ⊢
  rcases hc : l[i]? with _ | c
  · rw [hc] at h; exact h
  rw [hc] at h
  dsimp only at h ⊢
  cases g1 : blankB c <;> rw [g1] at h
  case true => exact blanks_mono d h
  simp only [cond_false] at h ⊢
  cases g2 : hasB l i [47, 47] <;> rw [g2] at h
  case true => exact blanks_mono d h
  simp only [cond_false] at h ⊢
  cases g3 : hasB l i [47, 42] <;> rw [g3] at h
  case false => exact h
  simp only [cond_true] at h ⊢
  cases g4 : decide (Lib.index (l.drop (i + 2)) [42, 47] < 0) <;> rw [g4] at h
  case true => exact h
  exact blanks_mono d h
theorem stop_of {v : Bs} {k : Nat} (h : blanksK v (k + 1) 0 = some (true, 0)) (m : Nat) : blanksK v (m + 1) 0 = some (true, 0) := by
 rw [blanksK] at h ⊢
 rcases hc : v[0]? with _ | c
 · rfl
 rw [hc] at h
 have hl := (List.getElem?_eq_some_iff.1 hc).1
 dsimp only at h ⊢
 cases g1 : blankB c <;> rw [g1] at h
 case true => have := (blanksK_le h (by omega)).1; omega
 simp only [cond_false] at h ⊢
 cases g2 : hasB v 0 [47, 47] <;> rw [g2] at h
 case true =>
  have h1 := (blanksK_le h (runOf_le _ v 0 (by omega))).1
  have h47 : c = 47 := by
   have h3 : (v.drop 0).take 2 = [47, 47] := by unfold hasB at g2; simpa using g2
   rw [List.drop_zero] at h3
   rcases v with _ | ⟨a, _ | ⟨b, z⟩⟩
   · cases hc
   · cases h3
   have h3 : [a, b] = [47, 47] := h3
   injection h3 with e1 e2
   have hc : some a = some c := hc
   rw [← Option.some.inj hc, e1]
  have h2 := runOf_pos (p := fun c => c != 10) hc (by rw [h47]; decide)
  omega
 simp only [cond_false] at h ⊢
 cases g3 : hasB v 0 [47, 42] <;> rw [g3] at h
 case false => rfl
 simp only [cond_true] at h ⊢
 cases g4 : decide (Lib.index (v.drop (0 + 2)) [42, 47] < 0) <;> rw [g4] at h
 case true => injection h with h; injection h with h; cases h
 have hrm := Lib.index_room (v.drop (0 + 2)) [42, 47] (by simpa using g4)
 simp only [List.length_drop, List.length_cons, List.length_nil] at hrm
 have hln := hasB_len g3 (by decide)
 simp only [List.length_cons, List.length_nil] at hln
 have hi0 := decide_eq_false_iff_not.1 g4
 have := (blanksK_le h (by omega)).1
 omega
theorem gap_go (m : Bool) {v : Bs} (hv : ∀ k, blanksK v (k + 1) 0 = some (true, 0)) (f : Nat) : blanksK (gapB m ++ v) (f + 12) 0 = some (true, (gapB m).length) := by
 cases m with
 | false =>
  have h := sh_blanks (w := [32, 10, 32]) (l := v) (f + 9) 0
  rw [hv (f + 8)] at h
  exact h
 | true =>
  have h := sh_blanks (w := [32, 47, 42, 32, 59, 32, 42, 47, 32]) (l := v) (f + 9) 0
  rw [hv (f + 8)] at h
  have hi : Lib.index ([32, 59, 32, 42, 47, 32] ++ v) [42, 47] = ((3 : Nat) : Int) := index_pre (v := []) (by decide) (by decide)
  show blanksK (gapB true ++ v) (f + 11) 1 = _
  rw [blanksK]
  show (bif false then _ else bif hasB (gapB true ++ v) 1 [47, 47] then _ else bif hasB (gapB true ++ v) 1 [47, 42] then (bif decide (Lib.index ([32, 59, 32, 42, 47, 32] ++ v) [42, 47] < 0) then some (false, 1) else blanksK (gapB true ++ v) (f + 10) (1 + (Lib.index ([32, 59, 32, 42, 47, 32] ++ v) [42, 47]).toNat + 4)) else _) = _
  rw [hi]
  show blanksK (gapB true ++ v) (f + 10) 8 = _
  exact h
theorem tw_full {f : UInt8 → Bool} {v : Bs} : ∀ {a : Bs}, ((a ++ v).takeWhile f).length = a.length → (∀ c ∈ a, f c = true) ∧ v.takeWhile f = []
 | [], h => ⟨fun c hc => (by cases hc), List.eq_nil_of_length_eq_zero h⟩
 | c :: a, h => by
  rw [List.cons_append, List.takeWhile_cons] at h
  cases hc : f c <;> rw [hc] at h
  case false => simp at h
  simp only [if_true, List.length_cons] at h
  obtain ⟨h1, h2⟩ := tw_full (f := f) (a := a) (v := v) (by omega)
  exact ⟨fun x hx => by rcases List.mem_cons.1 hx with rfl | hx; exact hc; exact h1 x hx, h2⟩
theorem junction (m : Bool) {u v : Bs} : ∀ {k i : Nat}, blanksK (u ++ v) k i = some (true, u.length) → i ≤ u.length → ∀ f, k + 12 ≤ f → blanksK (u ++ (gapB m ++ v)) f i = some (true, u.length + (gapB m).length)
 | 0, i, h, hi, f, hf => by cases h
 | k + 1, i, h, hi, f, hf => by
  have stopv : ∀ {k : Nat}, blanksK (u ++ v) (k + 1) u.length = some (true, u.length) → ∀ n, blanksK v (n + 1) 0 = some (true, 0) := fun {k} h => by
   have h1 : blanksK (u ++ v) (k + 1) u.length = (blanksK v (k + 1) 0).map fun p => (p.1, u.length + p.2) := sh_blanks (w := u) (l := v) (k + 1) 0
   rw [h] at h1
   rcases h2 : blanksK v (k + 1) 0 with _ | ⟨b, j⟩ <;> rw [h2] at h1
   · cases h1
   simp only [Option.map_some, Option.some.injEq, Prod.mk.injEq] at h1
   obtain ⟨rfl, h3⟩ := h1
   obtain rfl : j = 0 := by omega
   exact stop_of h2
  by_cases hiu : i = u.length
  · subst hiu
    obtain ⟨f, rfl⟩ : ∃ f', f = f' + 12 := ⟨f - 12, by omega⟩
    have h1 := sh_blanks (w := u) (l := gapB m ++ v) (f + 12) 0
    rw [gap_go m (stopv h)] at h1
    exact h1
  have hlt : i < u.length := by omega
  obtain ⟨f, rfl⟩ : ∃ f', f = f' + 1 := ⟨f - 1, by omega⟩
  rw [gap_cons]
  rw [blanksK, pre_get hlt] at h ⊢
  rcases hc : u[i]? with _ | c
  · have := List.getElem?_eq_none_iff.1 hc; omega
  rw [hc] at h
  dsimp only at h ⊢
  cases g1 : blankB c <;> rw [g1] at h
  case true => rw [← gap_cons]; exact junction m h (by omega) f (by omega)
  simp only [cond_false] at h ⊢
  cases g2 : hasB (u ++ v) i [47, 47] <;> rw [g2] at h
  case true =>
   simp only [cond_true] at h
   have hl := hasB_len g2 (by decide)
   simp only [List.length_cons, List.length_nil] at hl
   have hr := runOf_le (fun c => c != 10) (u ++ v) i (by omega)
   have h2 := (blanksK_le h hr).1
   have h3 : 2 ≤ runOf (fun c => c != 10) (u ++ v) i := by
    have h4 : ((u ++ v).drop i).take 2 = [47, 47] := by unfold hasB at g2; simpa using g2
    unfold runOf
    obtain ⟨z, hz⟩ : ∃ z, (u ++ v).drop i = 47 :: 47 :: z := by
     rcases h5 : (u ++ v).drop i with _ | ⟨a, _ | ⟨b, z⟩⟩ <;> rw [h5] at h4
     · cases h4
     · cases h4
     have h4 : [a, b] = [47, 47] := h4
     injection h4 with e1 e2; injection e2 with e2; subst e1 e2; exact ⟨z, rfl⟩
    rw [hz, List.takeWhile_cons, if_pos (by decide), List.takeWhile_cons, if_pos (by decide), List.length_cons, List.length_cons]; omega
   rw [has_room g2 (by simp; omega) (by decide)]
   simp only [cond_true]
   by_cases hend : i + runOf (fun c => c != 10) (u ++ v) i < u.length
   · rw [run_pre (v := v) (by omega) hend, ← gap_cons]
     exact junction m h (by omega) f (by omega)
   have he : i + runOf (fun c => c != 10) (u ++ v) i = u.length := by omega
   rw [he] at h
   obtain ⟨k, rfl⟩ : ∃ k', k = k' + 1 := ⟨k - 1, by have h0 : k ≠ 0 := (by rintro rfl; cases h); omega⟩
   have hst := stopv h
   have hfull : (((u.drop i) ++ v).takeWhile (fun c => c != 10)).length = (u.drop i).length := by
    unfold runOf at he
    rw [pre_drop (by omega)] at he
    rw [List.length_drop]; omega
   obtain ⟨ha, hv⟩ := tw_full hfull
   have hv0 : v = [] := by
    rcases v with _ | ⟨c0, v⟩
    · rfl
    rw [List.takeWhile_cons] at hv
    cases hc0 : (c0 != 10) <;> rw [hc0] at hv
    rotate_left 1
    · cases hv
    have h10 : c0 = 10 := by simpa using hc0
    subst h10
    have hle := hst 0
    rw [blanksK] at hle
    have hle : blanksK (10 :: v) 0 1 = some (true, 0) := hle
    cases hle
   subst hv0
   have hrun : runOf (fun c => c != 10) (u ++ 32 :: (gapT m ++ [])) i = (u.length - i) + ((gapB m).takeWhile fun c => c != 10).length := by
    unfold runOf
    rw [pre_drop (by omega), List.takeWhile_append_of_pos ha, List.length_append, List.length_drop, ← gap_cons, List.append_nil]
   rw [hrun, show i + (u.length - i + ((gapB m).takeWhile fun c => c != 10).length) = u.length + ((gapB m).takeWhile fun c => c != 10).length by omega, ← gap_cons, sh_blanks, List.append_nil]
   obtain ⟨f, rfl⟩ : ∃ f', f = f' + 11 := ⟨f - 11, by omega⟩
   cases m with
   | false => rfl
   | true => rfl
  simp only [cond_false] at h ⊢
  rw [has_none g2 (by omega) (by decide)]
  simp only [cond_false]
  cases g3 : hasB (u ++ v) i [47, 42] <;> rw [g3] at h
  case false =>
   injection h with h; injection h with _ h
   exact absurd h hiu
  simp only [cond_true] at h
  cases g4 : decide (Lib.index ((u ++ v).drop (i + 2)) [42, 47] < 0) <;> rw [g4] at h
  case true => injection h with h; injection h with h; cases h
  simp only [cond_false] at h
  have hl := hasB_len g3 (by decide)
  have hrm := Lib.index_room ((u ++ v).drop (i + 2)) [42, 47] (by simpa using g4)
  simp only [List.length_drop, List.length_cons, List.length_nil] at hrm hl
  obtain ⟨q, hq⟩ : ∃ q : Nat, Lib.index ((u ++ v).drop (i + 2)) [42, 47] = (q : Int) := ⟨(Lib.index ((u ++ v).drop (i + 2)) [42, 47]).toNat, by have := (decide_eq_false_iff_not.1 g4); omega⟩
  rw [hq] at h hrm
  have h2 := (blanksK_le h (by omega)).1
  rw [has_room g3 (by simp; omega) (by decide), ind_pre (by omega) hq (by simp; omega)]
  rw [show decide ((q : Int) < 0) = false by simp]
  simp only [cond_true, cond_false]
  rw [← gap_cons]
  exact junction m h (by omega) f (by omega)
theorem erT_sh (d : Nat) (t : Tk) : erT (sh d t) = erT t := by
 unfold erT; rw [(sh_kind d t).1, (sh_kind d t).2]
theorem ers_sh (d : Nat) (r : List Tk) : ers (r.map (sh d)) = ers r := by
 unfold ers; rw [List.map_map]; congr 1; funext t; exact erT_sh d t
theorem next_gap (m : Bool) {u v : Bs} {K i j : Nat} {op op' : List Bool} {t : Tk} (hK : (u ++ v).length + 14 ≤ K) (h : nextK (u ++ v) K i op = some (.tok t j op')) (hi : i ≤ u.length) (hp : t.pos = u.length) :
 ∃ t' j0, nextK (u ++ (gapB m ++ v)) K i op = some (.tok t' (u.length + (gapB m).length + j0) op') ∧ j = u.length + j0 ∧ erT t = erT t' ∧ j0 ≤ v.length := by
 have hL : i ≤ (u ++ v).length := by rw [List.length_append]; omega
 have hn := next_f h hL
 have hjl := (next_ok9 h hL).2.1
 rw [List.length_append] at hjl
 unfold nextK at h
 rcases hb : blanksK (u ++ v) K i with _ | ⟨b, s⟩ <;> rw [hb] at h
 · cases h
 cases b with
 | false => cases h
 | true =>
  dsimp only at h
  have hsl := (blanksK_le hb hL).2
  have key : s = u.length → blanksK (u ++ (gapB m ++ v)) K i = some (true, u.length + (gapB m).length) := fun hs => by
   subst hs
   obtain ⟨r, hr⟩ := blanks_tot (l := u ++ v) ((u ++ v).length + 1) i (by omega) hL
   have h2 := blanks_mono (K - ((u ++ v).length + 1)) hr
   rw [show (u ++ v).length + 1 + (K - ((u ++ v).length + 1)) = K by omega, hb] at h2
   cases h2
   exact junction m hr hi K (by omega)
  cases g : decide (s = (u ++ v).length) <;> rw [g] at h
  case true =>
   have g : s = (u ++ v).length := by simpa using g
   simp only [cond_true, Option.some.injEq, Nx.tok.injEq] at h
   obtain ⟨e1, e2, e3⟩ := h
   have hs : s = u.length := by rw [← e1] at hp; have hp : (s : Int) = u.length := hp; omega
   have hv : v.length = 0 := by rw [List.length_append] at g; omega
   refine ⟨⟨10, [], ((u.length + (gapB m).length : Nat) : Int), ((u.length + (gapB m).length : Nat) : Int)⟩, 0, ?_, by omega, by rw [← e1]; rfl, by omega⟩
   rw [← e3]
   unfold nextK
   rw [key hs]
   dsimp only
   rw [show decide (u.length + (gapB m).length = (u ++ (gapB m ++ v)).length) = true by rw [decide_eq_true_eq, List.length_append, List.length_append]; omega]
   rfl
  simp only [cond_false] at h
  rcases ht : tokenK (u ++ v) K s op with _ | ⟨t0, op0⟩ <;> rw [ht] at h
  · cases h
  dsimp only at h
  cases g0 : (t0.kind == 0) <;> rw [g0] at h
  case true => cases h
  simp only [cond_false, Option.some.injEq, Nx.tok.injEq] at h
  obtain ⟨rfl, h8, rfl⟩ := h
  have g0 : t0.kind ≠ 0 := by simpa using g0
  obtain ⟨_, hp2, e2, he2, hlt2, hel, _⟩ := (token_f ht).resolve_left g0
  have hs : s = u.length := by omega
  have hk := key hs
  subst hs
  have h1 := sh_token (w := u) (l := v) K 0 op
  rw [Nat.add_zero, ht] at h1
  have h2 := sh_token (w := u ++ gapB m) (l := v) K 0 op
  rcases hv : tokenK v K 0 op with _ | ⟨tv, opv⟩ <;> rw [hv] at h1 h2
  · cases h1
  simp only [Option.map_some, Option.some.injEq, Prod.mk.injEq] at h1
  obtain ⟨h3, rfl⟩ := h1
  have gv : tv.kind ≠ 0 := by have := (sh_kind u.length tv).1; rw [← h3] at this; omega
  obtain ⟨_, hpv, ev, hev, hltv, helv, _⟩ := (token_f hv).resolve_left gv
  have hen : ∀ d : Nat, (sh d tv).en = (d : Int) + ev := fun d => by
   unfold sh; rw [show (tv.kind == 0) = false by simpa using gv, ← hev]; rfl
  refine ⟨sh (u ++ gapB m).length tv, ev, ?_, by have h9 : t0.en = (u.length : Int) + ev := (by rw [h3]; exact hen _); omega, by rw [h3, erT_sh, erT_sh], helv⟩
  unfold nextK
  rw [hk]
  dsimp only
  rw [show decide (u.length + (gapB m).length = (u ++ (gapB m ++ v)).length) = false by rw [decide_eq_false_iff_not, List.length_append, List.length_append]; omega]
  rw [Nat.add_zero, List.length_append, List.append_assoc] at h2
  rw [h2]
  dsimp only [cond_false, Option.map_some]
  rw [(sh_kind _ tv).1, show (tv.kind == 0) = false by simpa using gv]
  show some (Nx.tok _ ((sh (u.length + (gapB m).length) tv).en).toNat _) = _
  rw [hen, List.length_append]
  congr 2
theorem tokens_from {l : Bs} {K : Nat} : ∀ {k n i : Nat} {op : List Bool} {acc ts : List Tk}, tokensK l K k n i op acc = some (.inl ts) → i ≤ l.length → ∃ r, ts = acc ++ r ∧ ∀ t ∈ r, (i : Int) ≤ t.pos
 | 0, n, i, op, acc, ts, h, hi => by cases h
 | k + 1, n, i, op, acc, ts, h, hi => by
  rw [tokensK] at h
  rcases hr : nextK l K i op with _ | ⟨t, j, op'⟩ | a <;> rw [hr] at h
  rotate_left 2
  · cases h
  · cases h
  dsimp only at h
  cases g : (n == 8192 && t.kind != 10) <;> rw [g] at h
  case true => cases h
  simp only [cond_false] at h
  have h9 := next_ok9 hr hi
  have hpos : (i : Int) ≤ t.pos := by
   rcases next_f hr hi with ⟨_, _, h2⟩ | ⟨_, p, h2, ⟨_, h3, _⟩, _⟩ <;> omega
  cases g2 : (t.kind == 10) <;> rw [g2] at h
  case true => cases h; exact ⟨[t], rfl, fun x hx => by rcases List.mem_singleton.1 hx with rfl; exact hpos⟩
  obtain ⟨r, h1, h2⟩ := tokens_from h h9.2.1
  exact ⟨t :: r, by rw [h1]; simp, fun x hx => by rcases List.mem_cons.1 hx with rfl | hx; exact hpos; have := h2 x hx; omega⟩
theorem ins_tokens (m : Bool) {u v : Bs} {K : Nat} (hK : (u ++ v).length + 14 ≤ K) {tk : Tk} (hp : tk.pos = u.length) : ∀ {f n i : Nat} {op : List Bool} {acc ts : List Tk} (acc' : List Tk) (q : Nat), tokensK (u ++ v) K f n i op acc = some (.inl ts) → i ≤ u.length → ts[acc.length + q]? = some tk →
 ∃ r r', ts = acc ++ r ∧ tokensK (u ++ (gapB m ++ v)) K f n i op acc' = some (.inl (acc' ++ r')) ∧ ers r = ers r'
 | 0, n, i, op, acc, ts, acc', q, h, hi, hq => by cases h
 | f + 1, n, i, op, acc, ts, acc', q, h, hi, hq => by
  have hL : i ≤ (u ++ v).length := by rw [List.length_append]; omega
  rw [tokensK] at h ⊢
  rcases hr : nextK (u ++ v) K i op with _ | ⟨t, j, op'⟩ | a <;> rw [hr] at h
  · cases h
  case some.bad => cases h
  dsimp only at h
  cases g : (n == 8192 && t.kind != 10) <;> rw [g] at h
  case true => cases h
  simp only [cond_false] at h
  have h9 := next_ok9 hr hL
  have hfirst : ts[acc.length]? = some t := by
   cases g2 : (t.kind == 10) <;> rw [g2] at h
   case true => cases h; simp
   obtain ⟨r, h1, _⟩ := tokens_from h h9.2.1
   rw [h1]; simp
  rcases q with _ | q
  rotate_left 1
  · have h10 : t.kind ≠ 10 := fun h10 => by
     rw [show (t.kind == 10) = true by simpa using h10] at h
     cases h
     rw [List.getElem?_eq_none (by simp)] at hq; cases hq
    have g2 : (t.kind == 10) = false := by simpa using h10
    rw [g2] at h
    simp only [cond_false] at h
    have hju : j ≤ u.length := by
     obtain ⟨r, h1, h2⟩ := tokens_from h h9.2.1
     rw [h1, List.getElem?_append_right (by simp)] at hq
     have := h2 tk (List.mem_of_getElem? hq)
     omega
    rw [gap_cons, next_pre hr hL h10 hju]
    dsimp only
    rw [g, g2]
    simp only [cond_false]
    rw [← gap_cons]
    obtain ⟨r, r', h1, h2, h3⟩ := ins_tokens m hK hp (acc' ++ [t]) q h hju (by rw [List.length_append, List.length_singleton, ← hq]; congr 1; omega)
    exact ⟨t :: r, t :: r', by rw [h1]; simp, by rw [h2]; simp, by show erT t :: ers r = erT t :: ers r'; rw [h3]⟩
  rw [Nat.add_zero] at hq
  have htk : t = tk := Option.some.inj (hfirst.symm.trans hq)
  obtain ⟨t', j0, e1, rfl, e3, e4⟩ := next_gap m hK hr hi (by rw [htk]; exact hp)
  have hkk : t'.kind = t.kind := (erT_eq e3).1
  rw [e1]
  dsimp only
  rw [hkk, g]
  simp only [cond_false]
  cases g2 : (t.kind == 10) <;> rw [g2] at h
  case true => cases h; exact ⟨[t], [t'], rfl, rfl, by show [erT t] = [erT t']; rw [e3]⟩
  simp only [cond_false] at h ⊢
  have s1 := sh_tokens (w := u) (l := v) (K := K) f (n + 1) j0 op' [] (acc ++ [t]) e4
  have s2 := sh_tokens (w := u ++ gapB m) (l := v) (K := K) f (n + 1) j0 op' [] (acc' ++ [t']) e4
  rw [h] at s1
  rcases hv : tokensK v K f (n + 1) j0 op' [] with _ | r0 | e <;> rw [hv] at s1 s2
  rotate_left 2
  · obtain ⟨e, s1⟩ := s1; cases s1
  · cases s1
  obtain ⟨r1, h1, h2⟩ := s1
  obtain ⟨r2, h3, h4⟩ := s2
  have e0 : r1 = r0 := by simpa using h1.symm
  have e00 : r2 = r0 := by simpa using h3.symm
  subst e0 e00
  injection h2 with h2; injection h2 with h2
  rw [List.length_append, List.append_assoc] at h4
  exact ⟨t :: r2.map (sh u.length), t' :: r2.map (sh (u.length + (gapB m).length)), by rw [h2]; simp, by rw [h4]; simp, by
   show erT t :: ers _ = erT t' :: ers _
   rw [e3, ers_sh, ers_sh]⟩
theorem depth_er (mo : Int) : ∀ {ts ts' : List Tk} (i : Nat) (n d f : Int), ers ts = ers ts' → depthL mo ts i n d f = depthL mo ts' i n d f
 | [], ts', i, n, d, f, h => by rw [ers_nil h]
 | t :: l, ts', i, n, d, f, h => by
  obtain ⟨u, l', rfl, h1, h2⟩ := ers_cons h
  rw [depthL, depthL, turn_er h1]
  exact depth_er mo _ _ _ _ h2
def SameW : Option (PT ⊕ (Int × Int)) → Option (PT ⊕ (Int × Int)) → Prop
 | some (.inl x), some (.inl y) => rP x y
 | some (.inr (_, e)), some (.inr (_, e')) => e = e'
 | none, none => True
 | _, _ => False
theorem whole_er2 {b c : Bs} {K N kind : Nat} {ts ts' : List Tk} (h : tokensB b K = some (.inl ts)) (h' : tokensB c K = some (.inl ts')) (e : ers ts = ers ts') : SameW (wholeB b K N kind) (wholeB c K N kind) := by
 unfold wholeB
 rw [h, h']
 dsimp only
 rw [depth_er 64 0 0 0 (-1) e]
 cases decide (0 ≤ (depthL 64 ts' 0 0 0 (-1)).2) with
 | true => exact rfl
 | false =>
  simp only [cond_false]
  have hr := run_rel (K := K) (n := N) (whole := kind) ts ts' e
  rcases h1 : runM K (gr K N) kind ts with _ | a | ⟨x, t⟩ <;> rcases h2 : runM K (gr K N) kind ts' with _ | a' | ⟨y, t'⟩ <;> rw [h1, h2] at hr
  · trivial
  · exact hr.elim
  · exact hr.elim
  · exact hr.elim
  · exact rfl
  · exact hr.elim
  · exact hr.elim
  · exact hr.elim
  exact hr.1
theorem blanks_lawK (m : Bool) {K : Nat} (hK : 900 ≤ K) {b : Bs} (hb : b.length ≤ 800) {ts : List Tk} (ht : tokensB b K = some (.inl ts)) {q p : Nat} {tk : Tk} (hq : ts[q]? = some tk) (hp : tk.pos = (p : Int)) (N kind : Nat) :
 SameW (wholeB b K N kind) (wholeB (b.take p ++ (gapB m ++ b.drop p)) K N kind) := by
 have hf := tokensB_f ht
 have hpl : p ≤ b.length := by have := (hf.1 tk (List.mem_of_getElem? hq)).2.2.1; omega
 have hul : (b.take p).length = p := by rw [List.length_take]; omega
 have hg : (gapB m).length ≤ 9 := by cases m <;> decide
 have ht2 := ht
 unfold tokensB at ht2
 rw [show decide (b.length > 65536) = false by rw [decide_eq_false_iff_not]; omega] at ht2
 simp only [cond_false] at ht2
 have hsplit : b.take p ++ b.drop p = b := List.take_append_drop p b
 rw [← hsplit] at ht2
 obtain ⟨r, r', h1, h2, h3⟩ := ins_tokens m (u := b.take p) (v := b.drop p) (K := K) (by rw [hsplit]; omega) (tk := tk) (by rw [hul]; exact hp) [] q ht2 (Nat.zero_le _) (by rw [List.length_nil, Nat.zero_add]; exact hq)
 have h2 : tokensB (b.take p ++ (gapB m ++ b.drop p)) K = some (.inl r') := by
  unfold tokensB
  rw [show decide ((b.take p ++ (gapB m ++ b.drop p)).length > 65536) = false by rw [decide_eq_false_iff_not]; simp; omega]
  simp only [cond_false]
  rw [List.nil_append] at h2
  exact h2
 rw [List.nil_append] at h1
 exact whole_er2 ht h2 (by rw [h1]; exact h3)
theorem blanks_law (m : Bool) {b : Bs} (hb : b.length ≤ 800) {ts : List Tk} (ht : tokensB b KF = some (.inl ts)) {q p : Nat} {tk : Tk} (hq : ts[q]? = some tk) (hp : tk.pos = (p : Int)) (kind : Nat) :
 SameW (wholeB b KF NF kind) (wholeB (b.take p ++ (gapB m ++ b.drop p)) KF NF kind) := blanks_lawK m (show 900 ≤ KF by unfold KF; omega) hb ht hq hp NF kind
end Go.Proofs
