/- From a walk in separation logic to a row of this seat: the world framed whole; a world that fits; how a row and its card are closed. -/
import Derived.Test.YtldagpopfebbbaaGreatDoorZO
import Derived.Test.YtldagpopfebbbaaGreatDoorTie
import Derived.Test.YtldagpopfebbbaaGreatDoorCards
import Derived.ProofKit
import Derived.LaidLaws
import Derived.Handed
import Derived.HandedShaped
import Derived.Shelf.Vars
import Derived.RowKit
import Derived.Test.YtldagpopfebbbaaGreatDoorZP
set_option linter.unusedVariables false
set_option linter.unusedSimpArgs false
namespace Go.Px
/-- all of the world but the pieces of S -/
def Rem (w0 : World) (S : List Nat) : HP := fun h => ∀ c, h c = if c ∈ S then none else hpOf w0 c
theorem sat_rem (w0 : World) : Sat [Rem w0 []] w0 := ⟨hpOf w0, fun _ => none, fun b => .inr ⟨rfl, rfl⟩, fun c => by simp, trivial⟩
theorem rem_take {w0 : World} {S : List Nat} {b : Nat} {o : Obj} (hb : w0.heap[b]? = some o) (hS : b + 1 ∉ S) : Ent [Rem w0 S] [Blk b o, Rem w0 ((b + 1) :: S)] := fun h s => by
  obtain ⟨h1, h2, d, p, _⟩ := s
  have e : hpOf w0 (b + 1) = some (.obj o) := by show (w0.heap[b]?).map Res.obj = _; rw [hb]; rfl
  refine ⟨fun c => if c = b + 1 then some (.obj o) else none, fun c => if c = b + 1 then none else h c, fun c => ?_, ⟨by simp, fun c hc => by simp [hc]⟩, fun c => if c = b + 1 then none else h1 c, fun c => if c = b + 1 then none else h2 c, fun c => ?_, fun c => ?_, trivial⟩
  · dsimp only
    by_cases hc : c = b + 1
    · right
      rw [if_pos hc, if_pos hc]
      refine ⟨rfl, ?_⟩
      have hp := p (b + 1)
      rw [if_neg hS, e] at hp
      subst hc
      rcases d (b + 1) with ⟨q, _⟩ | ⟨_, q⟩
      · rw [hp] at q; cases q
      · rw [← q, hp]
    · left
      rw [if_neg hc, if_neg hc]
      exact ⟨rfl, rfl⟩
  · dsimp only
    by_cases hc : c = b + 1
    · rw [if_pos hc, if_pos hc, if_pos hc]; exact .inl ⟨rfl, rfl⟩
    · rw [if_neg hc, if_neg hc, if_neg hc]; exact d c
  · dsimp only
    by_cases hc : c = b + 1
    · rw [if_pos hc, if_pos (by rw [hc]; simp)]
    · rw [if_neg hc, p c]
      simp only [List.mem_cons, hc, false_or]
theorem rem_keep {w0 w : World} {S : List Nat} {Γ : List HP} (s : Sat (Rem w0 S :: Γ) w) : ∀ (b : Nat) (o : Obj), b + 1 ∉ S → w0.heap[b]? = some o → w.heap[b]? = some o := fun b o hS hb => by
  obtain ⟨h1, h2, d, p, _⟩ := s
  have hp := p (b + 1)
  have e : hpOf w0 (b + 1) = some (.obj o) := by show (w0.heap[b]?).map Res.obj = _; rw [hb]; rfl
  rw [if_neg hS, e] at hp
  have e2 : hpOf w (b + 1) = (w.heap[b]?).map Res.obj := rfl
  rcases d (b + 1) with ⟨q, _⟩ | ⟨_, q⟩
  · rw [hp] at q; cases q
  · rw [hp, e2] at q
    cases h : w.heap[b]? with
    | none => rw [h] at q; cases q
    | some x => rw [h] at q; cases q; rfl
theorem rem_rest {w0 w : World} {S : List Nat} {Γ : List HP} (s : Sat (Rem w0 S :: Γ) w) (hS : 0 ∉ S) : w.os = w0.os ∧ w.output = w0.output := by
  obtain ⟨h1, h2, d, p, _⟩ := s
  have hp := p 0
  have e : hpOf w0 0 = some (.rest w0.os w0.output) := rfl
  rw [if_neg hS, e] at hp
  have e2 : hpOf w 0 = some (.rest w.os w.output) := rfl
  rcases d 0 with ⟨q, _⟩ | ⟨_, q⟩
  · rw [hp] at q; cases q
  · rw [hp, e2] at q
    simp only [Option.some.injEq, Res.rest.injEq] at q
    exact ⟨q.1.symm, q.2.symm⟩
/-- everything that was is as it was -/
def Kept (w0 w : World) : Prop := w.os = w0.os ∧ w.output = w0.output ∧ ∀ (b : Nat) (o : Obj), w0.heap[b]? = some o → w.heap[b]? = some o
theorem Kept.but {w0 w : World} (h : Kept w0 w) (may : MemPlace → Prop) : w0.keptBut w may := by
  refine ⟨h.1, h.2.1, fun i hi => ?_⟩
  have e := h.2.2 i _ (Array.getElem?_eq_getElem hi)
  rw [e, Array.getElem?_eq_getElem hi]
  cases w0.heap[i] with
  | cells c t fr => exact ⟨rfl, rfl, rfl, fun _ _ => rfl⟩
  | map es clock => exact .inr ⟨rfl, rfl⟩
  | _ => rfl
end Go.Px
namespace Go.Proofs
open Go.Px
/-- a function that takes no slice: the whole world is its frame -/
theorem frame0 {f : FuncId} {args : Array Value} {v : Value} {W : World} {gx : GX} (h0 : W.heap[0]? = some (.cells (.int .i64 gx.1 :: gx.2.1).toArray gx.2.2.1 (gx.2.2.2.1, gx.2.2.2.2)))
    (hC : ∀ F w, Sat ([(GMx gx)] ++ F) w → Calls Tryz.prog f args w fun e w' => e = .returned v ∧ Sat ([(GMx gx)] ++ F) w') : Calls Tryz.prog f args W fun e w' => e = .returned v ∧ Kept W w' := by
  refine (hC [Rem W [1]] W ((sat_rem W).mono (rem_take (b := 0) (S := []) h0 (by simp)))).mono ?_
  rintro e w' ⟨rfl, s⟩
  have s2 : Sat (Rem W [1] :: (GMx gx) :: []) w' := sep_swap s
  have hr := rem_rest s2 (by simp)
  refine ⟨rfl, hr.1, hr.2, fun b o hb => ?_⟩
  by_cases hb0 : b = 0
  · subst hb0
    rw [h0] at hb; cases hb
    exact Sat.blk s
  · exact rem_keep s2 b o (by simp; omega) hb
theorem maxLen_of {W : World} (h : W.ShapedOpen Tryz.prog) : ∃ gx : GX, W.heap[0]? = some (.cells (.int .i64 gx.1 :: gx.2.1).toArray gx.2.2.1 (gx.2.2.2.1, gx.2.2.2.2)) := by
  obtain ⟨m, hm⟩ := cell_of_shapedOpen_int (P := Tryz.prog) (g := 0) (t := 3) (zero := #[.int .i64 0]) (k := .i64) h (of_decide_eq_true (by kernel_rfl)) (by kernel_rfl) rfl (by kernel_rfl) (by kernel_rfl) Tryz.underlying3
  unfold World.cell? at hm
  cases hh : W.heap[0]? with
  | none => rw [hh] at hm; cases hm
  | some o =>
    rw [hh] at hm
    cases o with
    | cells c t fz =>
      obtain ⟨l⟩ := c
      cases l with
      | nil => simp at hm
      | cons a l =>
        have ha : a = .int .i64 m := by simpa using hm
        subst ha
        exact ⟨(m, l, t, fz.1, fz.2), rfl⟩
    | _ => cases hm
end Go.Proofs
namespace Go.Proofs.YtldagpopfebbbaaGreatDoor
open Go.Px Go.ChangeShapes Go.WideShapes Go.ChangeAt Go.RowKit
theorem own : ownKnob Tryz.prog.godebug = none := by kernel_rfl
theorem lifted_of {H : Type} {enc : TypeId × Value → H} {a : Assume} {C : Checked} {os : Os} {f : FuncId} {fn : Func} {s : ChangeSpec} {conds : List PathCond} {apart fresh handsOn again : Bool} {X : World → Array Value → Prop}
    (own : ownKnob C.prog.godebug = none) (started : os.Started) (noInit : C.prog.inits.idxOf? f = none) (hfn : C.prog.funcs[f]? = some fn)
    (witness : ∃ (w : World) (tape : Tape) (i : Input), w.os = os ∧ (w.forCall tape i).Shaped C.prog ∧ i.vars = [] ∧ Input.okWide C.prog (w.forCall tape i) .any w.heap.size f i ∧
      ((s.pre enc C.prog fn conds apart (w.forCall tape i).memory i.args ∧ X (w.forCall tape i).memory i.args) ∧ sizedMet enc C.prog fn (OpenSpec.ofChange s) apart (w.forCall tape i).memory i.args) ∧ a.holds C.prog (lone (Frame.enter C.prog f i.args .normal) [] (w.forCall tape i)))
    (contract : ∀ (W : World) (base : Nat) (args : Array Value) (ds gs : List (DataW H)) (before : List MemPlace),
      (∀ (j : Nat) t v, fn.params[j]? = some t → args[j]? = some v → Value.okWide C.prog W .any base t v) →
      DataW.Whole enc C.prog fn.params.toList s.vars apart W args.toList ds gs before → W.ShapedOpen C.prog →
      Calls C.prog f args W fun e W' => ∃ v, e = .returned v ∧ s.post enc C.prog fn apart fresh handsOn again W args v W') :
    ReturnsInHanded a C os f .any (fun w args => (s.pre enc C.prog fn conds apart w args ∧ X w args) ∧ sizedMet enc C.prog fn (OpenSpec.ofChange s) apart w args) (s.post enc C.prog fn apart fresh handsOn again) := by
  refine returnsInHanded_of_calls own started noInit witness ?_
  intro w tape i _ hsh _ hok hpre hholds
  obtain ⟨_, _, _, fn', hfn', _, _, _, _, hval⟩ := hok
  have e : fn' = fn := Option.some.inj (hfn'.symm.trans hfn)
  subst e
  obtain ⟨⟨⟨ds, gs, before, hw, hc⟩, hx⟩, hz⟩ := hpre
  have hw' := DataW.Whole.of_heap (w' := w.forCall tape i) (by rfl) hw
  refine (contract (w.forCall tape i) w.heap.size i.args ds gs before hval hw' hsh).mono fun e W' ⟨v, he, hp⟩ => ?_
  subst he
  exact ChangeSpec.post_blind hp
abbrev rangeS : ByteArray := { data := #[118, 97, 108, 117, 101, 32, 111, 117, 116, 32, 111, 102, 32, 114, 97, 110, 103, 101] }
abbrev syntaxS : ByteArray := { data := #[105, 110, 118, 97, 108, 105, 100, 32, 115, 121, 110, 116, 97, 120] }
noncomputable def low : Nat := (World.holding Tryz.prog default ⟨#[], #[], []⟩).heap.size
def put (c' : Array Value) : Obj → Obj
  | .cells _ t frozen => .cells c' t frozen
  | o => o
noncomputable def laidWorld (os : Os) : World :=
  let w0 := World.holding Tryz.prog os ⟨#[.cells #[.string syntaxS] 234, .cells #[.string rangeS] 234], #[], []⟩
  { w0 with heap := ((((w0.heap.modify 3 (put #[.iface 232 (.pointer (some ⟨low, 0, none⟩))])).modify 4 (put #[.iface 232 (.pointer (some ⟨low + 1, 0, none⟩))])).modify 5 (put #[.int .u64 1, .int .u64 10, .int .u64 100, .int .u64 1000, .int .u64 10000, .int .u64 100000, .int .u64 1000000, .int .u64 10000000, .int .u64 100000000, .int .u64 1000000000, .int .u64 10000000000, .int .u64 100000000000, .int .u64 1000000000000, .int .u64 10000000000000, .int .u64 100000000000000, .int .u64 1000000000000000, .int .u64 10000000000000000, .int .u64 100000000000000000, .int .u64 1000000000000000000, .int .u64 10000000000000000000])).modify 6 (put #[.int .u8 0, .int .u8 1, .int .u8 28, .int .u8 2, .int .u8 29, .int .u8 14, .int .u8 24, .int .u8 3, .int .u8 30, .int .u8 22, .int .u8 20, .int .u8 15, .int .u8 25, .int .u8 17, .int .u8 4, .int .u8 8, .int .u8 31, .int .u8 27, .int .u8 13, .int .u8 23, .int .u8 21, .int .u8 19, .int .u8 16, .int .u8 7, .int .u8 26, .int .u8 12, .int .u8 18, .int .u8 6, .int .u8 11, .int .u8 5, .int .u8 10, .int .u8 9])).modify 7 (put #[.int .u8 0, .int .u8 1, .int .u8 56, .int .u8 2, .int .u8 57, .int .u8 49, .int .u8 28, .int .u8 3, .int .u8 61, .int .u8 58, .int .u8 42, .int .u8 50, .int .u8 38, .int .u8 29, .int .u8 17, .int .u8 4, .int .u8 62, .int .u8 47, .int .u8 59, .int .u8 36, .int .u8 45, .int .u8 43, .int .u8 51, .int .u8 22, .int .u8 53, .int .u8 39, .int .u8 33, .int .u8 30, .int .u8 24, .int .u8 18, .int .u8 12, .int .u8 5, .int .u8 63, .int .u8 55, .int .u8 48, .int .u8 27, .int .u8 60, .int .u8 41, .int .u8 37, .int .u8 16, .int .u8 46, .int .u8 35, .int .u8 44, .int .u8 21, .int .u8 52, .int .u8 32, .int .u8 23, .int .u8 11, .int .u8 54, .int .u8 26, .int .u8 40, .int .u8 15, .int .u8 34, .int .u8 20, .int .u8 31, .int .u8 10, .int .u8 25, .int .u8 14, .int .u8 19, .int .u8 9, .int .u8 13, .int .u8 8, .int .u8 7, .int .u8 6]) }
set_option maxRecDepth 100000 in
theorem laid_met (os : Os) (args : Array Value) : laidMet Tryz.prog Rows.parseLeftRow.laid ((laidWorld os).forCall (fun _ _ => 0) ⟨#[], args, []⟩).memory :=
  laidMet_of_run' 8 (by kernel_rfl) (by kernel_rfl)
end Go.Proofs.YtldagpopfebbbaaGreatDoor

namespace Go.Proofs.YtldagpopfebbbaaGreatDoor
open Go.Px Go.ChangeShapes Go.WideShapes Go.ChangeAt Go.RowKit
set_option maxRecDepth 100000 in
theorem bounds_lifted (os : Os) (started : os.Started) (H : Type) (enc : TypeId × Value → H) :
    ReturnsInHanded {} Tryz.checked os 8 .any (fun w args => (Rows.parseBoundsSpec.pre enc Tryz.prog Tryz.f8 Rows.parseBoundsRow.domain false w args ∧ laidMet Tryz.prog Rows.parseBoundsRow.laid w) ∧ sizedMet enc Tryz.prog Tryz.f8 (OpenSpec.ofChange Rows.parseBoundsSpec) false w args)
      (Rows.parseBoundsSpec.post enc Tryz.prog Tryz.f8 false true false false) := by
  refine lifted_of (C := Tryz.checked) (X := fun w _ => laidMet Tryz.prog Rows.parseBoundsRow.laid w) own started (by kernel_rfl) Tryz.func8
    (ChangeSpec.witness_at (enc := enc) (C := Tryz.checked) (os := os) (X := fun w _ => laidMet Tryz.prog Rows.parseBoundsRow.laid w) false (laidWorld os) #[.int .i64 0, .int .i64 0] 8 rfl (by kernel_rfl) (by kernel_rfl) (by kernel_rfl) (by kernel_rfl) (by kernel_rfl) (laid_met os _)) ?_
  intro W base args ds gs before hval0 hW hsh
  have hval : ∀ (j : Nat) t v, Tryz.f8.params[j]? = some t → args[j]? = some v → Value.okWide Tryz.prog W .any base t v := hval0
  have hW' := hW
  obtain ⟨p, q, hA0, hV, rfl, hfz, hnd⟩ := hW
  have hA : DataW.TrodAll enc Tryz.prog W 0 (fun _ => true) true Tryz.f8.params.toList args.toList ds p := hA0
  rw [Tryz.params8] at hA hval
  obtain ⟨v0, v1, d0, d1, p0, p1, rfl, rfl, rfl, h0, h1⟩ := trodAll_two hA
  obtain ⟨rfl, rfl⟩ := trodVars_none hV
  obtain ⟨a, rfl, rfl, rfl, wa⟩ := open_int Tryz.underlying3 (hval 0 3 v0 rfl rfl) h0
  obtain ⟨b, rfl, rfl, rfl, wb⟩ := open_int Tryz.underlying3 (hval 1 3 v1 rfl rfl) h1
  obtain ⟨gx, hg⟩ := maxLen_of hsh
  refine (frame0 hg (c_bounds a b)).mono ?_
  rintro e W' ⟨rfl, hk⟩
  refine ⟨_, rfl, _, _, _, [], [], [], hW', trodAll_mk1 (shut_bool Tryz.underlying4 true), trodAll_mk2 (shut_int Tryz.underlying3 wa) (shut_int Tryz.underlying3 wb), rfl, hk.but _, fun h => by cases h⟩
theorem bounds_row : Rows.ParseBoundsSaid :=
  OpenClaim.holds_of_wide 8 Tryz.f8 rfl rfl rfl rfl rfl rfl rfl ⟨rfl, rfl, rfl, rfl, rfl⟩ rfl rfl rfl rfl rfl (by kernel_rfl) Tryz.func8 (by kernel_rfl)
    (of_decide_eq_true (by kernel_rfl)) (by unfold Func.isWrapper; first | (rw [if_pos (by decide +kernel)]; kernel_rfl) | (rw [if_neg (by decide +kernel)]; exact ⟨rfl, rfl⟩))
    (fun os started H enc _ => bounds_lifted os started H enc)
theorem bounds_holds : Rows.ParseBoundsCardSaid :=
  Claim7.holds_tied_plain_at .later [] [.data, .data, .data, .sentinel, .sentinel] true (true, "fabbca7475e12f51d7834343e6111eabd2fa15b7b88547ffaa62aaa041ae6fe1") true
    bounds_row (fun _ h => by cases h) (by kernel_rfl) (fun _ h => by cases h) parseBounds_row_tie rfl ⟨rfl, rfl⟩ (by kernel_rfl) rfl
    (fun f fn hf hfn => by
      obtain rfl : f = 8 := Option.some.inj ((show Tryz.prog.funcNamed "shuck/shucklaw4.ParseBounds" = some 8 by kernel_rfl).symm.trans hf) |>.symm
      obtain rfl : fn = Tryz.f8 := (Option.some.inj (Tryz.func8.symm.trans hfn)).symm
      exact ⟨by kernel_rfl, fun j t ht => by
        rw [Tryz.params8] at ht
        have h3 : t = 3 := by
          rcases j with _ | _ | j
          · simpa using ht.symm
          · simpa using ht.symm
          · simp at ht
        subst h3
        exact (show Tryz.prog.wantsStandIn 3 = false by kernel_rfl)⟩)
    (by kernel_rfl)
#print axioms bounds_holds
end Go.Proofs.YtldagpopfebbbaaGreatDoor
