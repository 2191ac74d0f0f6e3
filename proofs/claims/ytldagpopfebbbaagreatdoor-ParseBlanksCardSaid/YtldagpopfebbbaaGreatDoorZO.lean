/- Drawn regions in which more than one operation is ready; calls behind a guard; the list of nodes, opened. -/
import Derived.Test.YtldagpopfebbbaaGreatDoorZM
import Derived.Test.YtldagpopfebbbaaGreatDoorZN
import Derived.Lib.SlBytesConst
set_option linter.unusedVariables false
set_option linter.unusedSimpArgs false
namespace Go.Px
attribute [local semireducible] WL WC At WD
section
variable {P : Program} {n : Nat} {Q : Post} {ρ : Env} {ds : List Deferred} {Γ Γ' Γ0 : List HP} {ops : Array Oper} {late : List Nat} {fuel : Nat} {L : Array Bool} {i : Nat}
def WDO (P : Program) (n : Nat) (ops : Array Oper) (late : List Nat) (Γ0 : List HP) (fuel : Nat) (L : Array Bool) (Q : Post) (ρ : Env) (ds : List Deferred) (Γ : List HP) (i : Nat) : Prop :=
 ∀ w, Sat Γ w → wpOp P ops (lift n Q) i (fun a' w' => (unl late (L.setIfInBounds i true) → Sat Γ0 w') ∧ wpAnyG P .any ops (lift n Q) late (Sat Γ0) fuel (L.setIfInBounds i true) a' w') (actOf n ρ ds) w
theorem WD_one (i : Nat) (hr : Region.ready .any ops L = [i]) (h : WDO P n ops late Γ0 fuel L Q ρ ds Γ i) : WD P n ops late Γ0 (fuel + 1) L Q ρ ds Γ := fun w s => by
 refine ⟨fun h0 => absurd (hr.symm.trans h0) (by simp), fun j hj => ?_⟩
 rw [hr] at hj
 obtain rfl : j = i := by simpa using hj
 exact h w s
def Wants (n : Nat) (ops : Array Oper) (ρ : Env) (o : Oper) : Prop := ∀ ds, Region.wanted o (yielded ops (actOf n ρ ds).tmps) = true
theorem w_none {o : Oper} (hg : o.guard = none) : Wants n ops ρ o := fun ds => by simp [Region.wanted, hg]
theorem WDO_step {o : Oper} (ho : ops[i]? = some o) (hw : Wants n ops ρ o)
 (h : ∀ w, Sat Γ w → o.wp P (actOf n ρ ds) w (fun a' w' => (unl late (L.setIfInBounds i true) → Sat Γ0 w') ∧ wpAnyG P .any ops (lift n Q) late (Sat Γ0) fuel (L.setIfInBounds i true) a' w') (lift n Q)) :
 WDO P n ops late Γ0 fuel L Q ρ ds Γ i := fun w s => by
 unfold wpOp
 simp only [ho]
 rw [if_pos (hw ds)]
 exact .inl (h w s)
theorem WDO_rd {o : Oper} {t : Tmp} {v : Value} (ho : ops[i]? = some o) (hd : o.dst = some t) (hw : Wants n ops ρ o) (hrd : Rd P n ρ o Γ v)
 (hE : unl late (L.setIfInBounds i true) → Ent Γ Γ0) (k : WD P n ops late Γ0 fuel (L.setIfInBounds i true) Q (upd ρ t v) ds Γ) : WDO P n ops late Γ0 fuel L Q ρ ds Γ i :=
 WDO_step ho hw fun w s => by
  unfold Oper.wp
  rw [actOf_eval, hrd w s]
  refine ⟨fun hu => s.mono (hE hu), ?_⟩
  rw [actOf_put, hd]
  exact k w s
theorem WDO_ef {o : Oper} {t : Tmp} {α : Type} {v : α → Value} {Γ' : α → List HP} (ho : ops[i]? = some o) (hd : o.dst = some t) (hw : Wants n ops ρ o) (hef : Ef P n ρ o Γ v Γ')
 (hE : unl late (L.setIfInBounds i true) → ∀ a, Ent (Γ' a) Γ0) (k : ∀ a, WD P n ops late Γ0 fuel (L.setIfInBounds i true) Q (upd ρ t (v a)) ds (Γ' a)) : WDO P n ops late Γ0 fuel L Q ρ ds Γ i :=
 WDO_step ho hw fun w s => by
  obtain ⟨a, w', hrun, hs⟩ := hef w s
  unfold Oper.wp
  rw [actOf_eval, hrun]
  refine ⟨fun hu => hs.mono (hE hu a), ?_⟩
  rw [actOf_put, hd]
  exact k a w' hs
end
attribute [irreducible] WDO
end Go.Px
namespace Go.Proofs
open Go.Px Tryz
structure Nd where
 b : Nat
 cap : Nat
 sp : List Value
 ss : List SV
def NLo (fs : List FN) (x : Nd) : HP := Cl x.b 39 ((nrows fs x.ss).flatten ++ x.sp)
theorem nl_open {fs : List FN} {sn : SV} {Γ : List HP} {w : World} (hne : fs ≠ []) (q : Sat (NL fs sn :: Γ) w) : ∃ x : Nd, sn = (some ⟨x.b, 0, none⟩, fs.length, x.cap) ∧ fs.length ≤ x.cap ∧ x.ss.length = fs.length ∧ Sat (Cl x.b 39 ((nrows fs x.ss).flatten ++ x.sp) :: Star KA fs x.ss :: Γ) w := by
 obtain ⟨ss, q⟩ := sep_ex q
 have q := ent_all [Arr 39 5 (slV sn) fs.length (nrows fs ss).flatten, Star KA fs ss] Γ _ q
 have hl : fs.length = ss.length := by
  obtain ⟨_, _, _, _, h1, h2, _, p, _⟩ := q
  exact star_len p
 obtain ⟨h1, h2, d, p, q2⟩ := q
 obtain ⟨hlen, hv⟩ := p
 obtain ⟨a, m, c⟩ := sn
 rcases hv with ⟨_, h0⟩ | ⟨b, cap, sp, e, hmc, hcm, hcs, hblk⟩
 · exact absurd (List.eq_nil_of_length_eq_zero h0) hne
 have e : Value.slice a m c = .slice (some ⟨b, 0, none⟩) fs.length cap := e
 cases e
 exact ⟨⟨b, c, sp, ss⟩, rfl, hmc, hl.symm, h1, h2, d, hblk, q2⟩
theorem row_get {k : Nat} (hk : k < 5) {v : Value} {sp : List Value} : ∀ {fs : List FN} {ss : List SV} {j : Nat} {f : FN} {s : SV}, fs[j]? = some f → ss[j]? = some s → (nrow f s)[k]? = some v → ((nrows fs ss).flatten ++ sp)[j * 5 + k]? = some v
 | [], _, _, _, _, h, _, _ => by simp at h
 | _ :: _, [], _, _, _, _, h, _ => by simp at h
 | f0 :: fs, s0 :: ss, 0, f, s, h, h', hv => by
  simp only [List.getElem?_cons_zero, Option.some.injEq] at h h'
  subst h h'
  show ((nrow f0 s0 :: nrows fs ss).flatten ++ sp)[0 * 5 + k]? = some v
  rw [List.flatten_cons, List.append_assoc, List.getElem?_append_left (by show 0 * 5 + k < 5; omega), Nat.zero_mul, Nat.zero_add]
  exact hv
 | f0 :: fs, s0 :: ss, j + 1, f, s, h, h', hv => by
  simp only [List.getElem?_cons_succ] at h h'
  show ((nrow f0 s0 :: nrows fs ss).flatten ++ sp)[(j + 1) * 5 + k]? = some v
  have hl : (nrow f0 s0).length = 5 := rfl
  rw [List.flatten_cons, List.append_assoc, List.getElem?_append_right (by rw [hl]; omega), hl, show (j + 1) * 5 + k - 5 = j * 5 + k by omega]
  exact row_get hk h h' hv
theorem row_some {fs : List FN} {ss : List SV} {j : Nat} {f : FN} (hl : ss.length = fs.length) (h : fs[j]? = some f) : ∃ s, ss[j]? = some s := by
 have := (List.getElem?_eq_some_iff.1 h).1
 exact ⟨ss[j]'(by omega), List.getElem?_eq_getElem _⟩
section
variable {fs : List FN} {ss : List SV} {j o : Nat} {f : FN} {sp : List Value}
theorem row_kind (hl : ss.length = fs.length) (h : fs[j]? = some f) (ho : o = j * 5) : ((nrows fs ss).flatten ++ sp)[o]? = some (.int .i64 f.kind) := by obtain ⟨s, hs⟩ := row_some hl h; subst ho; exact row_get (k := 0) (by decide) h hs rfl
theorem row_num (hl : ss.length = fs.length) (h : fs[j]? = some f) (ho : o = j * 5 + 2) : ((nrows fs ss).flatten ++ sp)[o]? = some (.int .i64 f.num) := by obtain ⟨s, hs⟩ := row_some hl h; subst ho; exact row_get (k := 2) (by decide) h hs rfl
end
def lay (x : PT) : List FN := layK x.size [(x, -1)] []
theorem layK_grow : ∀ (k : Nat) (st : List (PT × Int)) (fs : List FN), fs.length ≤ (layK k st fs).length
 | 0, st, fs => by unfold layK; exact Nat.le_refl _
 | k + 1, [], fs => by unfold layK; exact Nat.le_refl _
 | k + 1, (t, p) :: st, fs => by
  unfold layK
  refine Nat.le_trans ?_ (layK_grow k _ _)
  cases decide (0 ≤ p) <;> simp [addKid_length]
theorem lay_ne (x : PT) : lay x ≠ [] := by
 unfold lay
 obtain ⟨k, hk⟩ : ∃ k, x.size = k + 1 := ⟨x.size - 1, by have := size_pos x; omega⟩
 rw [hk]
 intro h
 have := layK_grow k (x.kids.map (fun c => (c, 0)) ++ []) [⟨x.kind, x.text, x.num, [], x.pos⟩]
 have h2 : layK k (x.kids.map (fun c => (c, 0)) ++ []) [⟨x.kind, x.text, x.num, [], x.pos⟩] = [] := h
 rw [h2] at this
 simp at this
variable {gx : GX} {rx : RX}
def entryOf : Nat → Nat
 | 0 => 16
 | 1 => 22
 | _ => 24
theorem c_entry {sv : SV} {l : Bs} {kind : Nat} {r : PT ⊕ (Int × Int)} (hk : kind ≤ 2) (hl : l.length ≤ 2000) (H : wholeB l KF NF kind = some r) : ∀ F w, Sat ([RB (slV sv) l rx, (GMx gx)] ++ F) w → Calls prog (entryOf kind) [slV sv].toArray w (WholeR gx rx sv l F r) := by
 have hsz : ∀ x, r = .inl x → x.size ≤ 1099511627776 := fun x h => by
  obtain ⟨r2, h1, h2⟩ := whole_tot (l := l) (kind := kind) hl
  rw [H] at h1; cases h1
  have := h2 x h; omega
 have hOK : ∀ ts, tokensB l KF = some (.inl ts) → LOK ts ∧ ts.length ≤ 1099511627776 := fun ts h => by
  have := tokensB_f h
  exact ⟨tok_lok this (by omega), by have := this.2.2.2; omega⟩
 have hE : ∀ a er, tokensB l KF = some (.inr (a, er)) → er ≠ 0 := fun a er h => by have := tokensB_err h; omega
 have : kind = 0 ∨ kind = 1 ∨ kind = 2 := by omega
 rcases this with rfl | rfl | rfl
 · exact c_program (by omega) (by unfold KF; omega) hOK hE H hsz
 · exact c_expr (by omega) (by unfold KF; omega) hOK hE H hsz
 exact c_type (by omega) (by unfold KF; omega) hOK hE H hsz
theorem c_parsed {sv : SV} {l : Bs} {kind : Nat} {x : PT} (hk : kind ≤ 2) (hl : l.length ≤ 2000) (H : wholeB l KF NF kind = some (.inl x)) : ∀ F w, Sat ([RB (slV sv) l rx, (GMx gx)] ++ F) w → Calls prog (entryOf kind) [slV sv].toArray w fun e w' =>
 ∃ y : { y : Nd // y.ss.length = (lay x).length ∧ (lay x).length ≤ y.cap }, e = .returned (.tuple #[.agg #[.slice (some ⟨y.1.b, 0, none⟩) (lay x).length y.1.cap], .int .i64 0, .int .i64 0]) ∧ Sat ([NLo (lay x) y.1, Star KA (lay x) y.1.ss, RB (slV sv) l rx, (GMx gx)] ++ F) w' := fun F w s => by
 refine (c_entry hk hl H F w s).mono ?_
 rintro e w' ⟨sn, rfl, q⟩
 obtain ⟨y, rfl, h1, h2, q⟩ := nl_open (lay_ne x) q
 exact ⟨⟨y, h2, h1⟩, rfl, q⟩
end Go.Proofs

namespace Go.Proofs
open Go.Px Tryz
def cbO (b : Nat) (l : Bs) : RX := some (b, .cells (l.map u8v).toArray 5 ((l.map u8v).toArray.size, (l.map u8v).toArray.size + 1))
def sbO (b cap : Nat) (l : Bs) : RX := some (b, .cells (bytesRow (bs l) cap) 5 ((bytesRow (bs l) cap).size, (bytesRow (bs l) cap).size + 1))
section
variable {n : Nat} {ρ : Env} {Γ Γ' : List HP} {d : Option Tmp} {ty : TypeId} {pos : String} {af : Array Edge} {gd : Option (Nat × Bool)}
theorem ef_constBytes {x : Operand} {b : Nat} {l : Bs} (hx : evE n ρ x = .slice (some ⟨b, 0, none⟩) l.length l.length) (hs : Sel Γ (Cl b 5 (l.map u8v)) Γ') :
 Ef prog n ρ ⟨d, .convert 22 22 x, ty, pos, af, gd⟩ Γ (fun _ : Unit => .slice (some ⟨b, 0, none⟩) l.length l.length) (fun _ => RB (slV (some ⟨b, 0, none⟩, l.length, l.length)) l (cbO b l) :: Γ') := fun w s => by
 have s := s.mono hs.ent
 have hb := Sat.blk s
 have hlt : b < w.heap.size := (Array.getElem?_eq_some_iff.1 hb).1
 have hsh : w.shape? b = some (5, (l.map u8v).toArray.size) := by unfold World.shape?; rw [hb]
 have hfz : (w.freeze ⟨b, (l.map u8v).toArray.size, none⟩ 1).heap = w.heap.modify b fun
  | .cells c elem (lo, hi) => .cells c elem (if lo == hi then ((l.map u8v).toArray.size, (l.map u8v).toArray.size + 1) else (min lo (l.map u8v).toArray.size, max hi ((l.map u8v).toArray.size + 1)))
  | o => o := by
  unfold World.freeze
  rw [if_neg (by decide)]
  rfl
 refine ⟨(), w.freeze ⟨b, (l.map u8v).toArray.size, none⟩ 1, ?_, ?_⟩
 · simp only [execOp, hx, Sem.run_bind]
   simp [convert, run_underlying underlying22, run_underlying underlying5, markStringish, hsh, World.freeze]
 have q : Sat (Blk b (.cells (l.map u8v).toArray 5 ((l.map u8v).toArray.size, (l.map u8v).toArray.size + 1)) :: Γ') (w.freeze ⟨b, (l.map u8v).toArray.size, none⟩ 1) := by
  refine Sat.put s ?_ fun c hc => ?_
  · rw [hfz, Array.getElem?_modify]
    simp only [if_true, hb]
    rfl
  rw [hfz, Array.getElem?_modify, if_neg (fun e => hc e.symm)]
 exact q.mono (rb_some (by rw [List.drop_zero, List.take_of_length_le (by simp)]))
theorem bin_rem {T : TypeId} {k : IntKind} {a b : Int} (hb : b ≠ 0) : binOp .rem T (.int k a) (.int k b) = pure (.int k (a.tmod b)) := by
 rw [binOp_rem]; unfold Op.intDiv; rw [if_neg hb]
end
def laidB (l : Bs) (kind : Nat) : Option (List FN) := match wholeB l KF NF kind with
 | some (.inl x) => some (lay x)
 | _ => none
theorem c_parsedF {gx : GX} {rx : RX} {sv : SV} {l : Bs} {kind : Nat} {fs : List FN} (hk : kind ≤ 2) (hl : l.length ≤ 2000) (H : laidB l kind = some fs) : ∀ F w, Sat ([RB (slV sv) l rx, (GMx gx)] ++ F) w → Calls prog (entryOf kind) [slV sv].toArray w fun e w' =>
 ∃ y : { y : Nd // y.ss.length = fs.length ∧ fs.length ≤ y.cap }, e = .returned (.tuple #[.agg #[.slice (some ⟨y.1.b, 0, none⟩) fs.length y.1.cap], .int .i64 0, .int .i64 0]) ∧ Sat ([NLo fs y.1, Star KA fs y.1.ss, RB (slV sv) l rx, (GMx gx)] ++ F) w' := by
 unfold laidB at H
 rcases h : wholeB l KF NF kind with _ | x | e
 · rw [h] at H; cases H
 · rw [h] at H
   cases H
   exact c_parsed hk hl h
 rw [h] at H; cases H
def knownFs : List FN := [⟨3, [], 0, [1], 0⟩, ⟨64, [], 0, [2], 0⟩, ⟨27, [], 0, [3, 4, 5], 0⟩, ⟨17, [102], 0, [], 0⟩, ⟨2, [], 0, [], 1⟩, ⟨2, [], 0, [6], 2⟩, ⟨10, [], 1, [], 2⟩]
theorem known_tree : laidB [102, 40, 49, 41, 59] 0 = some knownFs := by kernel_rfl
end Go.Proofs

namespace Go.Proofs
open Go.Px Tryz
section
variable {pb tb cap K : Nat} {L : List Tk} {g : NT → M PT} {gx : GX} {rx : RX}
theorem c_known : ∀ F w, Sat ([(GMx gx)] ++ F) w → Calls prog 21 [].toArray w fun e w' => e = .returned (.bool true) ∧ Sat ([(GMx gx)] ++ F) w' := by
 intro F
 refine calls_of_WC (fn := f21) func21 rfl rfl (Sr (Av (.bool false) (Ny (Bl 5 [.int .u8 102, .int .u8 40, .int .u8 49, .int .u8 41, .int .u8 59] (bs22_5 _ _ _ _ _ rfl rfl rfl rfl rfl ) fun b1 => WL_ef (ef_constBytes (b := b1) (l := [102, 40, 49, 41, 59]) rfl Z0) fun u2 => WL_callX (α := { y : Nd // y.ss.length = knownFs.length ∧ knownFs.length ≤ y.cap }) (Δ0 := [RB (slV (some ⟨b1, 0, none⟩, 5, 5)) [102, 40, 49, 41, 59] (cbO b1 [102, 40, 49, 41, 59]), (GMx gx)]) (Δ := fun y3 => [NLo knownFs y3.1, Star KA knownFs y3.1.ss, RB (slV (some ⟨b1, 0, none⟩, 5, 5)) [102, 40, 49, 41, 59] (cbO b1 [102, 40, 49, 41, 59]), (GMx gx)]) (v := fun y3 => .tuple #[.agg #[Sl y3.1.b knownFs.length y3.1.cap], Iv 0, Iv 0]) call16 rfl (c_parsedF (sv := (some ⟨b1, 0, none⟩, 5, 5)) (kind := 0) (fs := knownFs) (by decide) (by decide) known_tree) (K2 Z0 Z0) fun y3 => Mv (.tuple #[.agg #[Sl y3.1.b knownFs.length y3.1.cap], Iv 0, Iv 0]) (Xt (.agg #[Sl y3.1.b knownFs.length y3.1.cap]) (Xt (Iv 0) (Xt (Iv 0) (WL_ef (ef_alloc (l := [.slice none 0 0]) zeroValue26 rfl) fun b4 => Sa b4 0 [Sl y3.1.b knownFs.length y3.1.cap] sizeOf26 Z0 (.put .done) (Av (Iv 0) (Av (Iv 0) (Ny (Mv (Iv 0) (Bo (Iv 0) (Iv 0) (.bool true) eqg_int (by rw [binOp_eql]; rfl) (Mv (.bool true) (Ta true 13 (Fa b4 0 fa26_0 (Ta true 13 (Lo b4 0 (Sl y3.1.b knownFs.length y3.1.cap) isAgg24 Z0 rfl (Ta true 13 (WL_rd (rd_lenSV (s := (some ⟨y3.1.b, 0, none⟩, knownFs.length, y3.1.cap)) runUnderlying24 rfl (rfl)) (Ta true 13 (Bo (Iv 7) (Iv 7) (.bool true) eqg_int (by rw [binOp_eql]; rfl) (Pk true (Mv (.bool true) (Ta true 19 (Fa b4 0 fa26_0 (Ta true 19 (Lo b4 0 (Sl y3.1.b knownFs.length y3.1.cap) isAgg24 Z0 rfl (Ta true 19 (WL_rd (rd_idxN (j := 1) runUnderlying24 sizeOf39 rfl rfl (rfl) (by decide) rfl) (Ta true 19 (Fa y3.1.b 5 fa39_0 (Ta true 19 (Lo y3.1.b 5 (Iv 64) isAgg3 Z1 (row_kind (j := 1) (f := _) y3.2.1 rfl (by first | rfl | omega)) (Ta true 19 ?_)))))))))))))))))))))))))))))))))))
 refine Bo (Iv 64) (Iv 64) (.bool true) eqg_int (by rw [binOp_eql]; rfl) (Pk true (Mv (.bool true) (Ta true 27 (Fa b4 0 fa26_0 (Ta true 27 (Lo b4 0 (Sl y3.1.b knownFs.length y3.1.cap) isAgg24 Z0 rfl (Ta true 27 (WL_rd (rd_idxN (j := 2) runUnderlying24 sizeOf39 rfl rfl (rfl) (by decide) rfl) (Ta true 27 (Fa y3.1.b 10 fa39_0 (Ta true 27 (Lo y3.1.b 10 (Iv 27) isAgg3 Z1 (row_kind (j := 2) (f := _) y3.2.1 rfl (by first | rfl | omega)) (Ta true 27 (Bo (Iv 27) (Iv 27) (.bool true) eqg_int (by rw [binOp_eql]; rfl) (Pk true (Mv (.bool true) (Ta true 35 (Fa b4 0 fa26_0 (Ta true 35 (Lo b4 0 (Sl y3.1.b knownFs.length y3.1.cap) isAgg24 Z0 rfl (Ta true 35 (WL_rd (rd_idxN (j := 6) runUnderlying24 sizeOf39 rfl rfl (rfl) (by decide) rfl) (Ta true 35 (Fa y3.1.b 30 fa39_2 (Ta true 35 (Lo y3.1.b 32 (Iv 1) isAgg3 Z1 (row_num (j := 6) (f := _) y3.2.1 rfl (by first | rfl | omega)) (Ta true 35 (Bo (Iv 1) (Iv 1) (.bool true) eqg_int (by rw [binOp_eql]; rfl) (Pk true (Av (.bool true) (Nr ?_)))))))))))))))))))))))))))))))
 exact At_ret1 results21 (fun w q => ⟨rfl, q.mono (En Z4 D4)⟩)
end
end Go.Proofs

namespace Go.Proofs
open Go.Px
attribute [local semireducible] WL WC At WD
section
variable {P : Program} {n : Nat} {Q : Post} {ρ : Env} {ds ds0 : List Deferred} {Γ : List HP} {α : Type} {pre : α → Prop} {vals : α → List (Nat × Value)} {H : α → List HP}
def joinQ (α : Type) (pre : α → Prop) (vals : α → List (Nat × Value)) (H : α → List HP) (ds0 : List Deferred) (Q : Post) : Post
 | .normal, ρ, ds, w => ds = ds0 ∧ ∃ x, pre x ∧ Has ρ (vals x) ∧ Sat (H x) w
 | e, ρ, ds, w => Q e ρ ds w
theorem WC_join {x y : Code} {α : Type} (pre : α → Prop) (vals : α → List (Nat × Value)) (H : α → List HP) (h1 : WC P n x (joinQ α pre vals H ds Q) ρ ds Γ) (h2 : ∀ a σ, pre a → WC P n y Q (upds σ (vals a)) ds (H a)) : WC P n (.seq x y) Q ρ ds Γ := by
 refine WC_seq fun w s => wp_mono (h1 w s) fun e a w' q => ?_
 cases e with
 | normal =>
  obtain ⟨ρ', ds', rfl, rfl, z, hp, hh, s⟩ := q
  refine ⟨ρ', ds', rfl, ?_⟩
  have := h2 z ρ' hp
  rw [hh.eq] at this
  exact this _ s
 | panic c => exact q
 | _ => exact q
theorem At_join (x : α) (hp : pre x) (hh : Has ρ (vals x)) (hE : Ent Γ (H x)) : At .normal (joinQ α pre vals H ds Q) ρ ds Γ := fun w s => ⟨rfl, x, hp, hh, s.mono hE⟩
end
end Go.Proofs
