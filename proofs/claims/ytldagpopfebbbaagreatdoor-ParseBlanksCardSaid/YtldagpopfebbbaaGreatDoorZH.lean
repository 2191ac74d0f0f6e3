/- The package 'scan' (and lex, text.Decode) as plain functions over a list of bytes. -/
import Derived.Test.YtldagpopfebbbaaGreatDoorZA
import Derived.Lib.IndexMore
import Derived.Test.YtldagpopfebbbaaGreatDoorZG
import Derived.Laws.BytesArg
import Derived.Shelf.Strings.Search3
import Derived.Shelf.Small.Strs
set_option linter.unusedVariables false
set_option linter.unusedSimpArgs false
namespace Go.Px
def nb (c : UInt8) : Nat := c.toNat
def letterB (c : UInt8) : Bool := (decide (97 ≤ c.toNat) && decide (c.toNat ≤ 122)) || (decide (65 ≤ c.toNat) && decide (c.toNat ≤ 90)) || decide (c.toNat = 95) || decide (c.toNat = 36)
def digitB (c : UInt8) : Bool := decide (48 ≤ c.toNat) && decide (c.toNat ≤ 57)
def wordsAll : Bs := [32, 98, 114, 101, 97, 107, 32, 99, 97, 116, 99, 104, 32, 99, 108, 97, 115, 115, 32, 99, 111, 110, 115, 116, 32, 99, 111, 110, 115, 116, 114, 117, 99, 116, 111, 114, 32, 99, 111, 110, 116, 105, 110, 117, 101, 32, 101, 108, 115, 101, 32, 101, 110, 117, 109, 32, 101, 120, 112, 111, 114, 116, 32, 101, 120, 116, 101, 110, 100, 115, 32, 102, 97, 108, 115, 101, 32, 102, 105, 110, 97, 108, 108, 121, 32, 102, 111, 114, 32, 102, 117, 110, 99, 116, 105, 111, 110, 32, 105, 102, 32, 105, 109, 112, 108, 101, 109, 101, 110, 116, 115, 32, 105, 110, 32, 105, 110, 116, 101, 114, 102, 97, 99, 101, 32, 108, 101, 116, 32, 110, 97, 109, 101, 115, 112, 97, 99, 101, 32, 110, 101, 119, 32, 110, 117, 108, 108, 32, 111, 102, 32, 112, 117, 98, 108, 105, 99, 32, 114, 101, 97, 100, 111, 110, 108, 121, 32, 114, 101, 116, 117, 114, 110, 32, 115, 117, 112, 101, 114, 32, 116, 104, 105, 115, 32, 116, 104, 114, 111, 119, 32, 116, 114, 117, 101, 32, 116, 114, 121, 32, 116, 121, 112, 101, 32, 116, 121, 112, 101, 111, 102, 32, 117, 110, 100, 101, 102, 105, 110, 101, 100, 32, 119, 104, 105, 108, 101, 32, 97, 115, 32]
def reservedB (s : Bs) : Bool := Lib.contains wordsAll ([32] ++ s ++ [32])
def hasB (l : Bs) (i : Nat) (x : Bs) : Bool := (l.drop i).take x.length == x
def blankB (c : UInt8) : Bool := c == 32 || c == 9 || c == 10 || c == 13
def runOf (p : UInt8 → Bool) (l : Bs) (i : Nat) : Nat := ((l.drop i).takeWhile p).length
def blanksK (l : Bs) : Nat → Nat → Option (Bool × Nat)
 | 0, _ => none
 | k + 1, i => match l[i]? with
  | none => some (true, i)
  | some c => bif blankB c then blanksK l k (i + 1) else
   bif hasB l i [47, 47] then blanksK l k (i + runOf (fun c => c != 10) l i) else
   bif hasB l i [47, 42] then (bif decide (Lib.index (l.drop (i + 2)) [42, 47] < 0) then some (false, i) else blanksK l k (i + (Lib.index (l.drop (i + 2)) [42, 47]).toNat + 4)) else some (true, i)
def cutT (l : Bs) (kind : Int) (i j : Nat) : Tk := ⟨kind, (l.drop i).take (j - i), i, j⟩
def noT : Tk := ⟨0, [], 0, 0⟩
def wordT (l : Bs) (i : Nat) : Tk :=
 let j := i + runOf (fun c => letterB c || digitB c) l i
 let t := cutT l 1 i j
 bif reservedB t.text then { t with kind := 2 } else t
def numV (s : Bs) : Int := s.foldl (fun v c => min (v * 10 + ((c.toNat : Int) - 48)) 9007199254740992) 0
def letterAt (l : Bs) (j : Nat) : Bool := match l[j]? with
 | some c => letterB c
 | none => false
def numberT (l : Bs) (i : Nat) : Tk :=
 let j := i + runOf digitB l i
 bif decide (numV ((l.drop i).take (j - i)) > 9007199254740991) then noT else
 bif (l[i]? == some 48) && decide (j > i + 1) then noT else
 bif letterAt l j then noT else cutT l 3 i j
def wideB (c : UInt8) : Nat × Nat :=
 bif decide (c.toNat < 128) then (1, c.toNat) else bif decide (c.toNat / 32 = 6) then (2, c.toNat % 32) else bif decide (c.toNat / 16 = 14) then (3, c.toNat % 16) else bif decide (c.toNat / 8 = 30) then (4, c.toNat % 8) else (0, 0)
def fitsB (r n : Nat) : Bool :=
 bif n == 1 then true else bif n == 2 then decide (r ≥ 128) else bif n == 3 then decide (r ≥ 2048) && (decide (r < 55296) || decide (r > 57343)) else decide (r ≥ 65536) && decide (r ≤ 1114111)
def contR : List UInt8 → Nat → Option Nat
 | [], r => some r
 | c :: s, r => bif decide (c.toNat / 64 = 2) then contR s (r * 64 + c.toNat % 64) else none
def decodeB (l : Bs) (i : Nat) : Nat × Nat :=
 match l[i]? with
 | none => (0, 0)
 | some c =>
  let w := wideB c
  bif w.1 == 0 || decide (w.1 > l.length - i) then (65533, 1) else
  match contR ((l.drop (i + 1)).take (w.1 - 1)) w.2 with
  | none => (65533, 1)
  | some r => bif fitsB r w.1 then (r, w.1) else (65533, 1)
def runeBs (r : Nat) : Bs :=
 bif decide (r < 128) then [UInt8.ofNat r] else
 bif decide (r < 2048) then [UInt8.ofNat (192 + r / 64), UInt8.ofNat (128 + r % 64)] else
 bif decide (r < 65536) then [UInt8.ofNat (224 + r / 4096), UInt8.ofNat (128 + r / 64 % 64), UInt8.ofNat (128 + r % 64)] else
 [UInt8.ofNat (240 + r / 262144), UInt8.ofNat (128 + r / 4096 % 64), UInt8.ofNat (128 + r / 64 % 64), UInt8.ofNat (128 + r % 64)]
def hexD (c : UInt8) : Option Nat :=
 bif decide (48 ≤ c.toNat) && decide (c.toNat ≤ 57) then some (c.toNat - 48) else
 bif decide (97 ≤ c.toNat) && decide (c.toNat ≤ 102) then some (c.toNat - 87) else bif decide (65 ≤ c.toNat) && decide (c.toNat ≤ 70) then some (c.toNat - 55) else none
def hexRun (l : Bs) : Nat → Nat → Nat → Nat × Nat
 | 0, k, v => (k, v)
 | n + 1, k, v => match l[k]? with
  | none => (k, v)
  | some c => match hexD c with
   | none => (k, v)
   | some d => hexRun l n (k + 1) (v * 16 + d)
def hexedB (l : Bs) (i : Nat) : Option (Nat × Bs) :=
 bif !hasB l (i + 2) [123] then none else
 let r := hexRun l 6 (i + 3) 0
 bif r.1 == i + 3 || !hasB l r.1 [125] || decide (r.2 > 1114111) || (decide (r.2 ≥ 55296) && decide (r.2 ≤ 57343)) then none else some (r.1 + 1, runeBs r.2)
def rune1B (l : Bs) (i : Nat) : Option (Nat × Bs) :=
 match l[i]? with
 | none => none
 | some c => bif c != 92 then some (i + (decodeB l i).2, runeBs (decodeB l i).1) else
  match l[i + 1]? with
  | none => none
  | some d =>
   bif d == 110 then some (i + 2, [10]) else bif d == 114 then some (i + 2, [13]) else bif d == 116 then some (i + 2, [9]) else bif d == 48 then some (i + 2, [0]) else
   bif d == 92 || d == 34 || d == 39 || d == 36 || d == 96 then some (i + 2, [d]) else bif d == 117 then hexedB l i else none
def quotedK (l : Bs) (at_ : Nat) (q : UInt8) : Nat → Nat → Bs → Option Tk
 | 0, _, _ => none
 | k + 1, i, out => match l[i]? with
  | none => some noT
  | some c => bif c == q then some ⟨4, out, at_, (i : Int) + 1⟩ else bif c == 10 || c == 13 then some noT else
   match rune1B l i with
   | none => some noT
   | some (j, o) => quotedK l at_ q k j (out ++ o)
def pieceK (l : Bs) (at_ : Nat) (ends goes : Int) : Nat → Nat → Bs → Option Tk
 | 0, _, _ => none
 | k + 1, i, out => match l[i]? with
  | none => some noT
  | some c => bif c == 96 then some ⟨ends, out, at_, (i : Int) + 1⟩ else bif hasB l i [36, 123] then some ⟨goes, out, at_, (i : Int) + 2⟩ else
   match rune1B l i with
   | none => some noT
   | some (j, o) => pieceK l at_ ends goes k j (out ++ o)
def signs3 : List (Nat × Bs) := [(3, [32, 61, 61, 61, 32, 33, 61, 61, 32, 62, 62, 62, 32]), (2, [32, 61, 62, 32, 43, 61, 32, 45, 61, 32, 42, 61, 32, 37, 61, 32, 60, 61, 32, 62, 61, 32, 60, 60, 32, 62, 62, 32, 38, 38, 32, 124, 124, 32]), (1, [32, 123, 32, 125] ++ [32, 40, 32, 41, 32, 91, 32, 93, 32, 46, 32, 44, 32, 59, 32, 58, 32, 63, 32, 61, 32, 43, 32, 45, 32, 42, 32, 37, 32, 33, 32, 126, 32, 60, 32, 62, 32, 38, 32, 124, 32, 94, 32])]
def signL (l : Bs) (i : Nat) : List (Nat × Bs) → Tk
 | [] => noT
 | (n, s) :: rest => bif decide (l.length - i < n) then signL l i rest else
  let t := cutT l 9 i (i + n)
  bif t.text.any blankB || !Lib.contains s ([32] ++ t.text ++ [32]) then signL l i rest else t
def tokenK (l : Bs) (K i : Nat) (op : List Bool) : Option (Tk × List Bool) :=
 match l[i]? with
 | none => none
 | some c =>
  bif letterB c then some (wordT l i, op) else
  bif digitB c then some (numberT l i, op) else
  bif c == 34 || c == 39 then (quotedK l i c K (i + 1) []).map (·, op) else
  bif c == 96 then (pieceK l i 5 6 K (i + 1) []).map (fun t => (t, bif t.kind == 6 then true :: op else op)) else
  bif c == 125 && op.head?.getD false then (pieceK l i 8 7 K (i + 1) []).map (fun t => (t, bif t.kind == 8 then op.tail else op)) else
  let t := signL l i signs3
  some (t, bif t.text == [123] then false :: op else bif t.text == [125] then op.tail else op)
inductive Nx where
 | tok (t : Tk) (at_ : Nat) (op : List Bool)
 | bad (at_ : Int)
def nextK (l : Bs) (K i : Nat) (op : List Bool) : Option Nx :=
 match blanksK l K i with
 | none => none
 | some (false, j) => some (.bad j)
 | some (true, j) => bif decide (j = l.length) then some (.tok ⟨10, [], j, j⟩ j op) else
  match tokenK l K j op with
  | none => none
  | some (t, op') => bif t.kind == 0 then some (.bad j) else some (.tok t t.en.toNat op')
def tokensK (l : Bs) (K : Nat) : Nat → Nat → Nat → List Bool → List Tk → Option (List Tk ⊕ (Int × Int))
 | 0, _, _, _, _ => none
 | k + 1, n, i, op, acc => match nextK l K i op with
  | none => none
  | some (.bad a) => some (.inr (a, 3))
  | some (.tok t j op') => bif n == 8192 && t.kind != 10 then some (.inr (t.pos, 4)) else bif t.kind == 10 then some (.inl (acc ++ [t])) else tokensK l K k (n + 1) j op' (acc ++ [t])
def tokensB (l : Bs) (K : Nat) : Option (List Tk ⊕ (Int × Int)) := bif decide (l.length > 65536) then some (.inr (0, 2)) else tokensK l K K 0 0 [] []
def depthL (most : Int) : List Tk → Nat → Int → Int → Int → Int × Int
 | [], _, _, d, f => (d, f)
 | t :: l, i, n, d, f =>
  let n' := max 0 (n + turnT t)
  depthL most l (i + 1) n' (max d n') (bif decide (n' > most) && decide (f < 0) then (i : Int) else f)
def wholeB (l : Bs) (K N : Nat) (kind : Nat) : Option (PT ⊕ (Int × Int)) :=
 match tokensB l K with
 | none => none
 | some (.inr e) => some (.inr e)
 | some (.inl ts) =>
  let f := (depthL 64 ts 0 0 0 (-1)).2
  bif decide (0 ≤ f) then some (.inr ((ts[f.toNat]?.getD noT).pos, 5)) else
  match runM K (gr K N) kind ts with
  | none => none
  | some (.error a) => some (.inr (a, 6))
  | some (.ok (x, _)) => some (.inl x)
end Go.Px

namespace Go.Proofs
open Go.Px Tryz
attribute [local semireducible] WL WC At WD
abbrev u8v (c : UInt8) : Value := .int .u8 ((c.toNat : Nat) : Int)
theorem bytes_get {l : Bs} {sp : List Value} {i : Nat} {c : UInt8} (h : l[i]? = some c) : (l.map u8v ++ sp)[i]? = some (u8v c) := by
 obtain ⟨h1, h2⟩ := List.getElem?_eq_some_iff.1 h
 rw [List.getElem?_append_left (by simpa using h1), List.getElem?_map, h]; rfl
def bslV (bb i j cap : Nat) : Value := .slice (some ⟨bb, (if cap = i then 0 else i), none⟩) (j - i) (cap - i)
section
variable {n : Nat} {Q : Post} {ρ : Env} {ds : List Deferred} {Γ Γ' F F0 X : List HP} {ops : Array Oper} {rest : List Oper} {t : Tmp} {d : Option Tmp} {ty : TypeId} {pos : String} {af : Array Edge} {gd : Option (Nat × Bool)}
theorem rd_sliceLH {x y z : Operand} {T E : TypeId} {bb i j len cap : Nat} {a b : Int} {k k2 : IntKind} (hU : ∀ w, (underlying T).run prog w = .ok (.slice E) w) (hS : ∀ w, (sizeOf E).run prog w = .ok 1 w)
 (hx : evE n ρ x = .slice (some ⟨bb, 0, none⟩) len cap) (hy : evE n ρ y = .int k a) (hz : evE n ρ z = .int k2 b) (ha : a = (i : Int)) (hb : b = (j : Int)) (h1 : i ≤ j) (h2 : j ≤ cap) :
 Rd prog n ρ ⟨d, .slice T x (some y) (some z) none, ty, pos, af, gd⟩ Γ (bslV bb i j cap) := fun w _ => by
 subst ha hb
 have e1 : ((0 : Int) ≤ (j : Int) ∧ (j : Int) ≤ (cap : Int)) := ⟨Int.natCast_nonneg j, by omega⟩
 have e2 : ((0 : Int) ≤ (i : Int) ∧ (i : Int) ≤ (j : Int)) := ⟨Int.natCast_nonneg i, by omega⟩
 simp only [execOp, Instr.sliceAt, Instr.slice, Instr.sliceBounds, Instr.sliceBound, hx, hy, hz, asIntOf, Sem.run_bind, Sem.run_pure, Result.andThen_ok, hU, hS, Option.map_some, Option.map_none, if_pos e1, if_pos e2, Int.toNat_natCast]
 unfold bslV
 by_cases h : cap = i
 · simp [h]
 simp [h, Addr.add]; try omega
theorem rd_sliceLo {x y : Operand} {T E : TypeId} {bb i len cap : Nat} {a : Int} {k : IntKind} (hU : ∀ w, (underlying T).run prog w = .ok (.slice E) w) (hS : ∀ w, (sizeOf E).run prog w = .ok 1 w)
 (hx : evE n ρ x = .slice (some ⟨bb, 0, none⟩) len cap) (hy : evE n ρ y = .int k a) (ha : a = (i : Int)) (h1 : i ≤ len) (h2 : len ≤ cap) :
 Rd prog n ρ ⟨d, .slice T x (some y) none none, ty, pos, af, gd⟩ Γ (bslV bb i len cap) := fun w _ => by
 subst ha
 have e2 : ((0 : Int) ≤ (i : Int) ∧ (i : Int) ≤ (len : Int)) := ⟨Int.natCast_nonneg i, by omega⟩
 simp only [execOp, Instr.sliceAt, Instr.slice, Instr.sliceBounds, Instr.sliceBound, hx, hy, asIntOf, Sem.run_bind, Sem.run_pure, Result.andThen_ok, hU, hS, Option.map_some, Option.map_none, if_pos e2, Int.toNat_natCast]
 unfold bslV
 by_cases h : cap = i
 · simp [h]
 simp [h, Addr.add]; try omega
theorem rd_minI {x y : Operand} {us : Array TypeId} {k : IntKind} {a b : Int} (hx : evE n ρ x = .int k a) (hy : evE n ρ y = .int k b) :
 Rd prog n ρ ⟨d, .call ⟨.builtin .min, #[x, y], us⟩, ty, pos, af, gd⟩ Γ (.int k (min a b)) := by
 have := rd_min (P := prog) (d := d) (ty := ty) (pos := pos) (af := af) (gd := gd) (Γ := Γ) (ts := us) hx hy
 have e : (if b < a then b else a) = min a b := by
  rw [Int.min_def]; split <;> split <;> omega
 rwa [e] at this
theorem strOf_bs (e1 : ∀ m : Bs, (m.map fun c => ((c.toNat : Nat) : Int)).map (fun n => UInt8.ofNat n.toNat) = m) (m : Bs) : strOfNums (m.map fun c => ((c.toNat : Nat) : Int)) = bs m := by
 have h : strOfNums (m.map fun c => ((c.toNat : Nat) : Int)) = ⟨((m.map fun c => ((c.toNat : Nat) : Int)).map (fun n => UInt8.ofNat n.toNat)).toArray⟩ := rfl
 rw [h, e1]; rfl
theorem rd_bstr {x : Operand} {l : Bs} {sp : List Value} {bb i j cap : Nat} (hx : evE n ρ x = bslV bb i j cap) (h1 : i ≤ j) (h2 : j ≤ l.length) (hc : l.length ≤ cap) (hs : Sel Γ (Cl bb 5 (l.map u8v ++ sp)) Γ')
 (g1 : prog.underlying 22 = some (.slice 5)) (g2 : prog.underlying 5 = some (.int .u8)) (g3 : prog.underlying 9 = some .string) :
 Rd prog n ρ ⟨d, .convert 22 9 x, ty, pos, af, gd⟩ Γ (.string (bs ((l.drop i).take (j - i)))) := fun w s => by
 have hb := Sat.blk (s.mono hs.ent)
 have key : (convert 22 9 (bslV bb i j cap)).run prog w = .ok (.string (strOfNums (((l.drop i).take (j - i)).map fun c => ((c.toNat : Nat) : Int)))) w := by
  refine run_convert_bytes_arg w 22 5 g1 g2 bb (if cap = i then 0 else i) (j - i) (cap - i) (((l.drop i).take (j - i)).map fun c => ((c.toNat : Nat) : Int)) (by simp; omega) (fun m hm => ?_) 9 g3
  have hne : cap ≠ i := by omega
  rw [if_neg hne]
  have hl : i + m < l.length := by omega
  have hlm : l[i + m]? = some (l[i + m]'hl) := List.getElem?_eq_getElem hl
  have hcell : ((l.map u8v ++ sp).toArray)[i + m]? = some (u8v (l[i + m]'hl)) := by rw [List.getElem?_toArray]; exact bytes_get hlm
  have e : (((l.drop i).take (j - i)).map fun c => ((c.toNat : Nat) : Int)).getD m 0 = (((l[i + m]'hl).toNat : Nat) : Int) := by
   rw [List.getD_eq_getElem?_getD, List.getElem?_map, List.getElem?_take, if_pos (by omega), List.getElem?_drop, hlm]
   rfl
  have := cell_of_block (w := w) hb hcell
  rw [e, this]
 simp only [execOp, hx, Sem.run_bind, key, Result.andThen_ok, Sem.run_pure]
 have e : strOfNums (((l.drop i).take (j - i)).map fun c => ((c.toNat : Nat) : Int)) = bs ((l.drop i).take (j - i)) := by
  have e1 : ∀ m : Bs, (m.map fun c => ((c.toNat : Nat) : Int)).map (fun n => UInt8.ofNat n.toNat) = m := fun m => by
   rw [List.map_map]
   conv => rhs; rw [← List.map_id m]
   exact List.map_congr_left fun c _ => by simp
  exact strOf_bs e1 _
 rw [e]
end
end Go.Proofs

namespace Go.Proofs
open Go.Px Go.Shelf
attribute [local semireducible] WL WC At WD

def shRen : Ren :=
  { f := fun x => match x with
      | 144 => 168
      | 143 => 163
      | 219 => 208
      | 217 => 207
      | 225 => 234
      | 224 => 235
      | 267 => 236
      | 266 => 233
      | 314 => 252
      | 137 => 161
      | n => n
    t := fun x => match x with
      | 46 => 139
      | 146 => 205
      | 51 => 204
      | n => n
    g := fun x => match x with
      | 1 => 0
      | n => n }
theorem lays144 : Lays.n144 Tryz.prog shRen :=
  { mixed := Tryz.mixed, f143 := Eq.trans Tryz.func163 (congrArg some (by kernel_rfl)), f144 := Eq.trans Tryz.func168 (congrArg some (by kernel_rfl)), f217 := Eq.trans Tryz.func207 (congrArg some (by kernel_rfl)),
    f219 := Eq.trans Tryz.func208 (congrArg some (by kernel_rfl)), f224 := Eq.trans Tryz.func235 (congrArg some (by kernel_rfl)), f225 := Eq.trans Tryz.func234 (congrArg some (by kernel_rfl)), f266 := Eq.trans Tryz.func233 (congrArg some (by kernel_rfl)),
    f267 := Eq.trans Tryz.func236 (congrArg some (by kernel_rfl)), f314 := Eq.trans Tryz.func252 (congrArg some (by kernel_rfl)), t3 := Tryz.underlying3, a3 := Tryz.isAgg3, z3 := Tryz.sizeOf3, v3 := Tryz.zeroValue3, t4 := Tryz.underlying4, a4 := Tryz.isAgg4,
    z4 := Tryz.sizeOf4, v4 := Tryz.zeroValue4, t5 := Tryz.underlying5, a5 := Tryz.isAgg5, z5 := Tryz.sizeOf5, v5 := Tryz.zeroValue5, t9 := Tryz.underlying9, a9 := Tryz.isAgg9, z9 := Tryz.sizeOf9, v9 := Tryz.zeroValue9,
    t46 := Tryz.underlying139, a46 := Tryz.isAgg139, z46 := Tryz.sizeOf139, v46 := Tryz.zeroValue139, t51 := Tryz.underlying204, a51 := Tryz.isAgg204, z51 := Tryz.sizeOf204, v51 := Tryz.zeroValue204,
    t146 := Tryz.underlying205, a146 := Tryz.isAgg205, z146 := Tryz.sizeOf205, v146 := Tryz.zeroValue205, g1 := by kernel_rfl }
theorem lays143 : Lays.n143 Tryz.prog shRen := { lays144 with }
theorem lays137 : Lays.n137 Tryz.prog shRen := { lays144 with f137 := Eq.trans Tryz.func161 (congrArg some (by kernel_rfl)) }

abbrev GX := Int × List Value × TypeId × Nat × Nat
abbrev RX := Option (Nat × Obj)
def GMx (x : GX) : HP := Blk 0 (.cells (.int .i64 x.1 :: x.2.1).toArray x.2.2.1 (x.2.2.2.1, x.2.2.2.2))
variable {gx : GX}
theorem gm_cell {Γ F : List HP} {w : World} (hs : Sel Γ (GMx gx) F) (s : Sat Γ w) : ∃ m, w.cell? ⟨0, 0, none⟩ = some (.int .i64 m) :=
  ⟨gx.1, cell_of_block (Sat.blk (s.mono hs.ent)) rfl⟩
theorem bs_data (s : Bs) : (bs s).data.toList = s := by simp [bs]
theorem u8_back (c : UInt8) : (((c.toNat : Nat) : Int)).toNat.toUInt8 = c := by simp
theorem c_indexByte (s : Bs) (c : UInt8) : ∀ F w, Sat ([] ++ F) w → Calls Tryz.prog 161 [.string (bs s), u8v c].toArray w fun e w' => e = .returned (.int .i64 (Lib.indexByte s c)) ∧ Sat ([] ++ F) w' := fun F w q => by
  refine (Any.strings_IndexByte lays137 (bs s) ((c.toNat : Nat) : Int) w).mono ?_
  rintro e w' ⟨rfl, rfl⟩
  rw [bs_data, u8_back]
  exact ⟨rfl, q⟩
theorem c_index (s x : Bs) (hs : s.length < 4294967281) : ∀ F w, Sat ([GMx gx] ++ F) w → Calls Tryz.prog 163 [.string (bs s), .string (bs x)].toArray w fun e w' => e = .returned (.int .i64 (Lib.index s x)) ∧ Sat ([GMx gx] ++ F) w' := fun F w q => by
  obtain ⟨m, hm⟩ := gm_cell .zero q
  refine (Any.strings_Index lays143 (bs s) (bs x) m w hs hm).mono ?_
  rintro e w' ⟨rfl, rfl⟩
  rw [bs_data, bs_data]
  exact ⟨rfl, q⟩
theorem c_contains (s x : Bs) (hs : s.length < 4294967281) : ∀ F w, Sat ([GMx gx] ++ F) w → Calls Tryz.prog 168 [.string (bs s), .string (bs x)].toArray w fun e w' => e = .returned (.bool (Lib.contains s x)) ∧ Sat ([GMx gx] ++ F) w' := fun F w q => by
  obtain ⟨m, hm⟩ := gm_cell .zero q
  refine (Any.strings_Contains lays144 (bs s) (bs x) m w hs hm).mono ?_
  rintro e w' ⟨rfl, rfl⟩
  rw [bs_data, bs_data]
  exact ⟨rfl, q⟩
end Go.Proofs

namespace Go.Proofs
open Go.Px Tryz
section
variable {pb tb cap K : Nat} {L : List Tk} {g : NT → M PT} {gx : GX} {rx : RX}
theorem c_letter (c : UInt8) : ∀ F w, Sat ([] ++ F) w → Calls prog 107 [u8v c].toArray w fun e w' => e = .returned (.bool (letterB c)) ∧ Sat ([] ++ F) w' := by
 intro F
 refine calls_of_WC (fn := f107) func107 rfl rfl (Sr (Av (.bool false) (Ny (Mv (.int .u8 c.toNat) (Bo (.int .u8 c.toNat) (.int .u8 97) (.bool (decide (((c.toNat : Nat) : Int) ≥ 97))) eqg_int (binOp_geq _ _ _ _) (Mv (.bool (decide (((c.toNat : Nat) : Int) ≥ 97))) ?_))))))
 cases hb1 : (decide (((c.toNat : Nat) : Int) ≥ 97))
 · refine Pa false 5 (Pa false 5 (Pk false (Mv (.bool false) (Ta false 9 (Mv (.int .u8 c.toNat) (Ta false 9 (Bo (.int .u8 c.toNat) (.int .u8 65) (.bool (decide (((c.toNat : Nat) : Int) ≥ 65))) eqg_int (binOp_geq _ _ _ _) (Ta false 9 (Mv (.bool (decide (((c.toNat : Nat) : Int) ≥ 65))) ?_)))))))))
   cases hb2 : (decide (((c.toNat : Nat) : Int) ≥ 65))
   · refine Pa false 12 (Pa false 12 (Ta false 9 (Pk false (Pk false (Mv (.bool false) (Ta false 17 (Mv (.int .u8 c.toNat) (Ta false 17 (Bo (.int .u8 c.toNat) (.int .u8 95) (.bool (((c.toNat : Nat) : Int) == 95)) eqg_int (binOp_eql _ _ _ _) (Pk false (Mv (.bool (((c.toNat : Nat) : Int) == 95)) ?_)))))))))))
     cases hb3 : (((c.toNat : Nat) : Int) == 95)
     rotate_left 1
     · refine Pa true 21 (Pa true 21 (Pk true (Av (.bool true) (Nr ?_))))
       have e9 : letterB c = true := by
        simp only [beq_iff_eq, beq_eq_false_iff_ne, ne_eq, decide_eq_true_eq, decide_eq_false_iff_not, ge_iff_le] at hb1 hb2 hb3
        unfold letterB; simp only [Bool.or_eq_true, Bool.and_eq_true, decide_eq_true_eq]; omega
       exact At_ret1 results107 (fun w q => ⟨by rw [e9]; rfl, q.mono E0⟩)
     refine Ta false 21 (Mv (.int .u8 c.toNat) (Ta false 21 (Bo (.int .u8 c.toNat) (.int .u8 36) (.bool (((c.toNat : Nat) : Int) == 36)) eqg_int (binOp_eql _ _ _ _) (Pk false (Av (.bool (((c.toNat : Nat) : Int) == 36)) (Nr ?_))))))
     cases hb4 : (((c.toNat : Nat) : Int) == 36)
     · have e9 : letterB c = false := by
        simp only [beq_iff_eq, beq_eq_false_iff_ne, ne_eq, decide_eq_true_eq, decide_eq_false_iff_not, ge_iff_le] at hb1 hb2 hb3 hb4
        unfold letterB; rw [Bool.eq_false_iff]; simp only [ne_eq, Bool.or_eq_true, Bool.and_eq_true, decide_eq_true_eq]; omega
       exact At_ret1 results107 (fun w q => ⟨by rw [e9]; rfl, q.mono E0⟩)
     have e9 : letterB c = true := by
      simp only [beq_iff_eq, beq_eq_false_iff_ne, ne_eq, decide_eq_true_eq, decide_eq_false_iff_not, ge_iff_le] at hb1 hb2 hb3 hb4
      unfold letterB; simp only [Bool.or_eq_true, Bool.and_eq_true, decide_eq_true_eq]; omega
     exact At_ret1 results107 (fun w q => ⟨by rw [e9]; rfl, q.mono E0⟩)
   refine Ta true 12 (Mv (.int .u8 c.toNat) (Ta true 12 (Bo (.int .u8 c.toNat) (.int .u8 90) (.bool (decide (((c.toNat : Nat) : Int) ≤ 90))) eqg_int (binOp_leq _ _ _ _) (Ta false 9 (Pk true (Pk false (Mv (.bool (decide (((c.toNat : Nat) : Int) ≤ 90))) ?_)))))))
   cases hb5 : (decide (((c.toNat : Nat) : Int) ≤ 90))
   rotate_left 1
   · refine Pa true 17 (Pa true 17 (Pk true (Mv (.bool true) (Pa true 21 (Pa true 21 (Pk true (Av (.bool true) (Nr ?_))))))))
     have e9 : letterB c = true := by
      simp only [beq_iff_eq, beq_eq_false_iff_ne, ne_eq, decide_eq_true_eq, decide_eq_false_iff_not, ge_iff_le] at hb1 hb2 hb5
      unfold letterB; simp only [Bool.or_eq_true, Bool.and_eq_true, decide_eq_true_eq]; omega
     exact At_ret1 results107 (fun w q => ⟨by rw [e9]; rfl, q.mono E0⟩)
   refine Ta false 17 (Mv (.int .u8 c.toNat) (Ta false 17 (Bo (.int .u8 c.toNat) (.int .u8 95) (.bool (((c.toNat : Nat) : Int) == 95)) eqg_int (binOp_eql _ _ _ _) (Pk false (Mv (.bool (((c.toNat : Nat) : Int) == 95)) ?_)))))
   cases hb6 : (((c.toNat : Nat) : Int) == 95)
   rotate_left 1
   · refine Pa true 21 (Pa true 21 (Pk true (Av (.bool true) (Nr ?_))))
     have e9 : letterB c = true := by
      simp only [beq_iff_eq, beq_eq_false_iff_ne, ne_eq, decide_eq_true_eq, decide_eq_false_iff_not, ge_iff_le] at hb1 hb2 hb5 hb6
      unfold letterB; simp only [Bool.or_eq_true, Bool.and_eq_true, decide_eq_true_eq]; omega
     exact At_ret1 results107 (fun w q => ⟨by rw [e9]; rfl, q.mono E0⟩)
   refine Ta false 21 (Mv (.int .u8 c.toNat) (Ta false 21 (Bo (.int .u8 c.toNat) (.int .u8 36) (.bool (((c.toNat : Nat) : Int) == 36)) eqg_int (binOp_eql _ _ _ _) (Pk false (Av (.bool (((c.toNat : Nat) : Int) == 36)) (Nr ?_))))))
   cases hb7 : (((c.toNat : Nat) : Int) == 36)
   rotate_left 1
   · have e9 : letterB c = true := by
      simp only [beq_iff_eq, beq_eq_false_iff_ne, ne_eq, decide_eq_true_eq, decide_eq_false_iff_not, ge_iff_le] at hb1 hb2 hb5 hb6 hb7
      unfold letterB; simp only [Bool.or_eq_true, Bool.and_eq_true, decide_eq_true_eq]; omega
     exact At_ret1 results107 (fun w q => ⟨by rw [e9]; rfl, q.mono E0⟩)
   have e9 : letterB c = false := by
    simp only [beq_iff_eq, beq_eq_false_iff_ne, ne_eq, decide_eq_true_eq, decide_eq_false_iff_not, ge_iff_le] at hb1 hb2 hb5 hb6 hb7
    unfold letterB; rw [Bool.eq_false_iff]; simp only [ne_eq, Bool.or_eq_true, Bool.and_eq_true, decide_eq_true_eq]; omega
   exact At_ret1 results107 (fun w q => ⟨by rw [e9]; rfl, q.mono E0⟩)
 refine Ta true 5 (Mv (.int .u8 c.toNat) (Ta true 5 (Bo (.int .u8 c.toNat) (.int .u8 122) (.bool (decide (((c.toNat : Nat) : Int) ≤ 122))) eqg_int (binOp_leq _ _ _ _) (Pk true (Mv (.bool (decide (((c.toNat : Nat) : Int) ≤ 122))) ?_)))))
 cases hb8 : (decide (((c.toNat : Nat) : Int) ≤ 122))
 rotate_left 1
 · refine Pa true 9 (Pa true 9 (Pa true 9 (WL_passU (e := 12) rfl rfl (WL_passU (e := 12) rfl rfl (Pa true 9 (Pk true (Mv (.bool true) (Pa true 17 (Pa true 17 (Pk true (Mv (.bool true) (Pa true 21 (Pa true 21 (Pk true (Av (.bool true) (Nr ?_))))))))))))))))
   have e9 : letterB c = true := by
    simp only [beq_iff_eq, beq_eq_false_iff_ne, ne_eq, decide_eq_true_eq, decide_eq_false_iff_not, ge_iff_le] at hb1 hb8
    unfold letterB; simp only [Bool.or_eq_true, Bool.and_eq_true, decide_eq_true_eq]; omega
   exact At_ret1 results107 (fun w q => ⟨by rw [e9]; rfl, q.mono E0⟩)
 refine Ta false 9 (Mv (.int .u8 c.toNat) (Ta false 9 (Bo (.int .u8 c.toNat) (.int .u8 65) (.bool (decide (((c.toNat : Nat) : Int) ≥ 65))) eqg_int (binOp_geq _ _ _ _) (Ta false 9 (Mv (.bool (decide (((c.toNat : Nat) : Int) ≥ 65))) ?_)))))
 cases hb9 : (decide (((c.toNat : Nat) : Int) ≥ 65))
 · refine Pa false 12 (Pa false 12 (Ta false 9 (Pk false (Pk false (Mv (.bool false) (Ta false 17 (Mv (.int .u8 c.toNat) (Ta false 17 (Bo (.int .u8 c.toNat) (.int .u8 95) (.bool (((c.toNat : Nat) : Int) == 95)) eqg_int (binOp_eql _ _ _ _) (Pk false (Mv (.bool (((c.toNat : Nat) : Int) == 95)) ?_)))))))))))
   cases hb10 : (((c.toNat : Nat) : Int) == 95)
   rotate_left 1
   · refine Pa true 21 (Pa true 21 (Pk true (Av (.bool true) (Nr ?_))))
     have e9 : letterB c = true := by
      simp only [beq_iff_eq, beq_eq_false_iff_ne, ne_eq, decide_eq_true_eq, decide_eq_false_iff_not, ge_iff_le] at hb1 hb8 hb9 hb10
      unfold letterB; simp only [Bool.or_eq_true, Bool.and_eq_true, decide_eq_true_eq]; omega
     exact At_ret1 results107 (fun w q => ⟨by rw [e9]; rfl, q.mono E0⟩)
   refine Ta false 21 (Mv (.int .u8 c.toNat) (Ta false 21 (Bo (.int .u8 c.toNat) (.int .u8 36) (.bool (((c.toNat : Nat) : Int) == 36)) eqg_int (binOp_eql _ _ _ _) (Pk false (Av (.bool (((c.toNat : Nat) : Int) == 36)) (Nr ?_))))))
   cases hb11 : (((c.toNat : Nat) : Int) == 36)
   rotate_left 1
   · have e9 : letterB c = true := by
      simp only [beq_iff_eq, beq_eq_false_iff_ne, ne_eq, decide_eq_true_eq, decide_eq_false_iff_not, ge_iff_le] at hb1 hb8 hb9 hb10 hb11
      unfold letterB; simp only [Bool.or_eq_true, Bool.and_eq_true, decide_eq_true_eq]; omega
     exact At_ret1 results107 (fun w q => ⟨by rw [e9]; rfl, q.mono E0⟩)
   have e9 : letterB c = false := by
    simp only [beq_iff_eq, beq_eq_false_iff_ne, ne_eq, decide_eq_true_eq, decide_eq_false_iff_not, ge_iff_le] at hb1 hb8 hb9 hb10 hb11
    unfold letterB; rw [Bool.eq_false_iff]; simp only [ne_eq, Bool.or_eq_true, Bool.and_eq_true, decide_eq_true_eq]; omega
   exact At_ret1 results107 (fun w q => ⟨by rw [e9]; rfl, q.mono E0⟩)
 refine Ta true 12 (Mv (.int .u8 c.toNat) (Ta true 12 (Bo (.int .u8 c.toNat) (.int .u8 90) (.bool (decide (((c.toNat : Nat) : Int) ≤ 90))) eqg_int (binOp_leq _ _ _ _) (Ta false 9 (Pk true (Pk false (Mv (.bool (decide (((c.toNat : Nat) : Int) ≤ 90))) ?_)))))))
 cases hb12 : (decide (((c.toNat : Nat) : Int) ≤ 90))
 rotate_left 1
 · refine Pa true 17 (Pa true 17 (Pk true (Mv (.bool true) (Pa true 21 (Pa true 21 (Pk true (Av (.bool true) (Nr ?_))))))))
   have e9 : letterB c = true := by
    simp only [beq_iff_eq, beq_eq_false_iff_ne, ne_eq, decide_eq_true_eq, decide_eq_false_iff_not, ge_iff_le] at hb1 hb8 hb9 hb12
    unfold letterB; simp only [Bool.or_eq_true, Bool.and_eq_true, decide_eq_true_eq]; omega
   exact At_ret1 results107 (fun w q => ⟨by rw [e9]; rfl, q.mono E0⟩)
 refine Ta false 17 (Mv (.int .u8 c.toNat) (Ta false 17 (Bo (.int .u8 c.toNat) (.int .u8 95) (.bool (((c.toNat : Nat) : Int) == 95)) eqg_int (binOp_eql _ _ _ _) (Pk false (Mv (.bool (((c.toNat : Nat) : Int) == 95)) ?_)))))
 cases hb13 : (((c.toNat : Nat) : Int) == 95)
 rotate_left 1
 · refine Pa true 21 (Pa true 21 (Pk true (Av (.bool true) (Nr ?_))))
   have e9 : letterB c = true := by
    simp only [beq_iff_eq, beq_eq_false_iff_ne, ne_eq, decide_eq_true_eq, decide_eq_false_iff_not, ge_iff_le] at hb1 hb8 hb9 hb12 hb13
    unfold letterB; simp only [Bool.or_eq_true, Bool.and_eq_true, decide_eq_true_eq]; omega
   exact At_ret1 results107 (fun w q => ⟨by rw [e9]; rfl, q.mono E0⟩)
 refine Ta false 21 (Mv (.int .u8 c.toNat) (Ta false 21 (Bo (.int .u8 c.toNat) (.int .u8 36) (.bool (((c.toNat : Nat) : Int) == 36)) eqg_int (binOp_eql _ _ _ _) (Pk false (Av (.bool (((c.toNat : Nat) : Int) == 36)) (Nr ?_))))))
 cases hb14 : (((c.toNat : Nat) : Int) == 36)
 rotate_left 1
 · have e9 : letterB c = true := by
    simp only [beq_iff_eq, beq_eq_false_iff_ne, ne_eq, decide_eq_true_eq, decide_eq_false_iff_not, ge_iff_le] at hb1 hb8 hb9 hb12 hb13 hb14
    unfold letterB; simp only [Bool.or_eq_true, Bool.and_eq_true, decide_eq_true_eq]; omega
   exact At_ret1 results107 (fun w q => ⟨by rw [e9]; rfl, q.mono E0⟩)
 have e9 : letterB c = false := by
  simp only [beq_iff_eq, beq_eq_false_iff_ne, ne_eq, decide_eq_true_eq, decide_eq_false_iff_not, ge_iff_le] at hb1 hb8 hb9 hb12 hb13 hb14
  unfold letterB; rw [Bool.eq_false_iff]; simp only [ne_eq, Bool.or_eq_true, Bool.and_eq_true, decide_eq_true_eq]; omega
 exact At_ret1 results107 (fun w q => ⟨by rw [e9]; rfl, q.mono E0⟩)
theorem c_digit (c : UInt8) : ∀ F w, Sat ([] ++ F) w → Calls prog 109 [u8v c].toArray w fun e w' => e = .returned (.bool (digitB c)) ∧ Sat ([] ++ F) w' := by
 intro F
 refine calls_of_WC (fn := f109) func109 rfl rfl (Sr (Av (.bool false) (Ny (Mv (.int .u8 c.toNat) (Bo (.int .u8 c.toNat) (.int .u8 48) (.bool (decide (((c.toNat : Nat) : Int) ≥ 48))) eqg_int (binOp_geq _ _ _ _) (Mv (.bool (decide (((c.toNat : Nat) : Int) ≥ 48))) ?_))))))
 cases hb1 : (decide (((c.toNat : Nat) : Int) ≥ 48))
 · refine Pa false 5 (Pa false 5 (Pk false (Av (.bool false) (Nr ?_))))
   have e9 : digitB c = false := by
    simp only [beq_iff_eq, beq_eq_false_iff_ne, ne_eq, decide_eq_true_eq, decide_eq_false_iff_not, ge_iff_le] at hb1
    unfold digitB; rw [Bool.eq_false_iff]; simp only [ne_eq, Bool.or_eq_true, Bool.and_eq_true, decide_eq_true_eq]; omega
   exact At_ret1 results109 (fun w q => ⟨by rw [e9]; rfl, q.mono E0⟩)
 refine Ta true 5 (Mv (.int .u8 c.toNat) (Ta true 5 (Bo (.int .u8 c.toNat) (.int .u8 57) (.bool (decide (((c.toNat : Nat) : Int) ≤ 57))) eqg_int (binOp_leq _ _ _ _) (Pk true (Av (.bool (decide (((c.toNat : Nat) : Int) ≤ 57))) (Nr ?_))))))
 cases hb2 : (decide (((c.toNat : Nat) : Int) ≤ 57))
 · have e9 : digitB c = false := by
    simp only [beq_iff_eq, beq_eq_false_iff_ne, ne_eq, decide_eq_true_eq, decide_eq_false_iff_not, ge_iff_le] at hb1 hb2
    unfold digitB; rw [Bool.eq_false_iff]; simp only [ne_eq, Bool.or_eq_true, Bool.and_eq_true, decide_eq_true_eq]; omega
   exact At_ret1 results109 (fun w q => ⟨by rw [e9]; rfl, q.mono E0⟩)
 have e9 : digitB c = true := by
  simp only [beq_iff_eq, beq_eq_false_iff_ne, ne_eq, decide_eq_true_eq, decide_eq_false_iff_not, ge_iff_le] at hb1 hb2
  unfold digitB; simp only [Bool.or_eq_true, Bool.and_eq_true, decide_eq_true_eq]; omega
 exact At_ret1 results109 (fun w q => ⟨by rw [e9]; rfl, q.mono E0⟩)
set_option maxRecDepth 20000 in
theorem c_reserved (s : Bs) (hs : s.length ≤ 1048576) : ∀ F w, Sat ([(GMx gx)] ++ F) w → Calls prog 165 [Tx s].toArray w fun e w' => e = .returned (.bool (reservedB s)) ∧ Sat ([(GMx gx)] ++ F) w' := by
 intro F
 refine calls_of_WC (fn := f165) func165 rfl rfl (Sr (Av (.bool false) (Ny (Mv (Tx s) (WL_rd (rd_addBs (a := [32]) (b := s) rfl rfl (by (try simp) <;> omega)) (WL_rd (rd_addBs (a := ([32] ++ s)) (b := [32]) rfl rfl (by (try simp) <;> omega)) (WL_callQ (Δ := [(GMx gx)]) (v := .bool (Lib.contains [32, 98, 114, 101, 97, 107, 32, 99, 97, 116, 99, 104, 32, 99, 108, 97, 115, 115, 32, 99, 111, 110, 115, 116, 32, 99, 111, 110, 115, 116, 114, 117, 99, 116, 111, 114, 32, 99, 111, 110, 116, 105, 110, 117, 101, 32, 101, 108, 115, 101, 32, 101, 110, 117, 109, 32, 101, 120, 112, 111, 114, 116, 32, 101, 120, 116, 101, 110, 100, 115, 32, 102, 97, 108, 115, 101, 32, 102, 105, 110, 97, 108, 108, 121, 32, 102, 111, 114, 32, 102, 117, 110, 99, 116, 105, 111, 110, 32, 105, 102, 32, 105, 109, 112, 108, 101, 109, 101, 110, 116, 115, 32, 105, 110, 32, 105, 110, 116, 101, 114, 102, 97, 99, 101, 32, 108, 101, 116, 32, 110, 97, 109, 101, 115, 112, 97, 99, 101, 32, 110, 101, 119, 32, 110, 117, 108, 108, 32, 111, 102, 32, 112, 117, 98, 108, 105, 99, 32, 114, 101, 97, 100, 111, 110, 108, 121, 32, 114, 101, 116, 117, 114, 110, 32, 115, 117, 112, 101, 114, 32, 116, 104, 105, 115, 32, 116, 104, 114, 111, 119, 32, 116, 114, 117, 101, 32, 116, 114, 121, 32, 116, 121, 112, 101, 32, 116, 121, 112, 101, 111, 102, 32, 117, 110, 100, 101, 102, 105, 110, 101, 100, 32, 119, 104, 105, 108, 101, 32, 97, 115, 32] (([32] ++ s) ++ [32]))) call168 rfl (c_contains [32, 98, 114, 101, 97, 107, 32, 99, 97, 116, 99, 104, 32, 99, 108, 97, 115, 115, 32, 99, 111, 110, 115, 116, 32, 99, 111, 110, 115, 116, 114, 117, 99, 116, 111, 114, 32, 99, 111, 110, 116, 105, 110, 117, 101, 32, 101, 108, 115, 101, 32, 101, 110, 117, 109, 32, 101, 120, 112, 111, 114, 116, 32, 101, 120, 116, 101, 110, 100, 115, 32, 102, 97, 108, 115, 101, 32, 102, 105, 110, 97, 108, 108, 121, 32, 102, 111, 114, 32, 102, 117, 110, 99, 116, 105, 111, 110, 32, 105, 102, 32, 105, 109, 112, 108, 101, 109, 101, 110, 116, 115, 32, 105, 110, 32, 105, 110, 116, 101, 114, 102, 97, 99, 101, 32, 108, 101, 116, 32, 110, 97, 109, 101, 115, 112, 97, 99, 101, 32, 110, 101, 119, 32, 110, 117, 108, 108, 32, 111, 102, 32, 112, 117, 98, 108, 105, 99, 32, 114, 101, 97, 100, 111, 110, 108, 121, 32, 114, 101, 116, 117, 114, 110, 32, 115, 117, 112, 101, 114, 32, 116, 104, 105, 115, 32, 116, 104, 114, 111, 119, 32, 116, 114, 117, 101, 32, 116, 114, 121, 32, 116, 121, 112, 101, 32, 116, 121, 112, 101, 111, 102, 32, 117, 110, 100, 101, 102, 105, 110, 101, 100, 32, 119, 104, 105, 108, 101, 32, 97, 115, 32] (([32] ++ s) ++ [32]) (by decide)) (K1 Z0) (Av (.bool (Lib.contains [32, 98, 114, 101, 97, 107, 32, 99, 97, 116, 99, 104, 32, 99, 108, 97, 115, 115, 32, 99, 111, 110, 115, 116, 32, 99, 111, 110, 115, 116, 114, 117, 99, 116, 111, 114, 32, 99, 111, 110, 116, 105, 110, 117, 101, 32, 101, 108, 115, 101, 32, 101, 110, 117, 109, 32, 101, 120, 112, 111, 114, 116, 32, 101, 120, 116, 101, 110, 100, 115, 32, 102, 97, 108, 115, 101, 32, 102, 105, 110, 97, 108, 108, 121, 32, 102, 111, 114, 32, 102, 117, 110, 99, 116, 105, 111, 110, 32, 105, 102, 32, 105, 109, 112, 108, 101, 109, 101, 110, 116, 115, 32, 105, 110, 32, 105, 110, 116, 101, 114, 102, 97, 99, 101, 32, 108, 101, 116, 32, 110, 97, 109, 101, 115, 112, 97, 99, 101, 32, 110, 101, 119, 32, 110, 117, 108, 108, 32, 111, 102, 32, 112, 117, 98, 108, 105, 99, 32, 114, 101, 97, 100, 111, 110, 108, 121, 32, 114, 101, 116, 117, 114, 110, 32, 115, 117, 112, 101, 114, 32, 116, 104, 105, 115, 32, 116, 104, 114, 111, 119, 32, 116, 114, 117, 101, 32, 116, 114, 121, 32, 116, 121, 112, 101, 32, 116, 121, 112, 101, 111, 102, 32, 117, 110, 100, 101, 102, 105, 110, 101, 100, 32, 119, 104, 105, 108, 101, 32, 97, 115, 32] (([32] ++ s) ++ [32]))) (Nr ?_)))))))))
 exact At_ret1 results165 (fun w q => ⟨rfl, q⟩)
theorem hasB_short {l x : Bs} {i : Nat} (hi : i ≤ l.length) (h : l.length < i + x.length) : hasB l i x = false := by
 unfold hasB
 rw [Bool.eq_false_iff]
 intro e
 have e : (l.drop i).take x.length = x := by simpa using e
 have := congrArg List.length e
 rw [List.length_take, List.length_drop] at this
 omega
theorem c_has {l x : Bs} {i : Nat} {sb bb cap : Nat} {sp : List Value} {a : Int} {so : SV} (hcap : l.length ≤ cap) (hl : l.length ≤ 1099511627776) (hx : x.length ≤ 1099511627776) (hi : i ≤ l.length) : ∀ F w, Sat ([Cl sb 134 [Sl bb l.length cap, Iv a, slV so], Cl bb 5 (l.map u8v ++ sp)] ++ F) w → Calls prog 162 [ptr sb, Iv i, Tx x].toArray w fun e w' => e = .returned (.bool (hasB l i x)) ∧ Sat ([Cl sb 134 [Sl bb l.length cap, Iv a, slV so], Cl bb 5 (l.map u8v ++ sp)] ++ F) w' := by
 intro F
 refine calls_of_WC (fn := f162) func162 rfl rfl (Sr (Av (.bool false) (Ny (Mv (ptr sb) (Nc sb 0 (Fa sb 0 fa134_0 (Lo sb 0 (Sl bb l.length cap) isAgg22 Z0 rfl (WL_rd (rd_lenS (a := some ⟨bb, 0, none⟩) (k := l.length) runUnderlying22 rfl) (Mv (Iv i) (Bo (Iv l.length) (Iv i) (Iv (((l.length : Nat) : Int) - ((i : Nat) : Int))) eqg_int (bin_sub (by omega) (by omega)) (Mv (Tx x) (WL_rd (rd_lenBs (s := x) runUnderlying9 rfl) (Bo (Iv (((l.length : Nat) : Int) - ((i : Nat) : Int))) (Iv x.length) (.bool (decide ((((l.length : Nat) : Int) - ((i : Nat) : Int)) ≥ ((x.length : Nat) : Int)))) eqg_int (binOp_geq _ _ _ _) (Mv (.bool (decide ((((l.length : Nat) : Int) - ((i : Nat) : Int)) ≥ ((x.length : Nat) : Int)))) ?_))))))))))))))
 cases hb1 : (decide ((((l.length : Nat) : Int) - ((i : Nat) : Int)) ≥ ((x.length : Nat) : Int)))
 · refine Pa false 17 (Pa false 17 (Pa false 17 (Pa false 17 (Pa false 17 (Pa false 17 (Pa false 17 (Pa false 17 (Pa false 17 (Pa false 17 (Pa false 17 (Pa false 17 (Pa false 17 (Pk false (Av (.bool false) (Nr ?_)))))))))))))))
   exact At_ret1 results162 (fun w q => ⟨by rw [hasB_short (l := l) (i := i) (x := x) hi (by have h9 := hb1; simp only [decide_eq_false_iff_not] at h9; omega)]; rfl, q⟩)
 refine Ta true 17 (Mv (ptr sb) (Ta true 17 (Nc sb 0 (Ta true 17 (Fa sb 0 fa134_0 (Ta true 17 (Lo sb 0 (Sl bb l.length cap) isAgg22 Z0 rfl (Ta true 17 (Mv (Iv i) (Ta true 17 (Mv (Iv i) (Ta true 17 (Mv (Tx x) ?_)))))))))))))
 have hix : i + x.length ≤ l.length := by have h9 := hb1; simp only [decide_eq_true_eq] at h9; omega
 refine Ta true 17 (WL_rd (rd_lenBs (s := x) runUnderlying9 rfl) (Ta true 17 (Bo (Iv i) (Iv x.length) (Iv (((i : Nat) : Int) + ((x.length : Nat) : Int))) eqg_int (bin_add (by omega) (by omega)) (Ta true 17 (WL_rd (rd_sliceLH (i := i) (j := (i + x.length)) runUnderlying22 sizeOf5 rfl rfl rfl (rfl) (by omega) (by omega) (by omega)) (Ta true 17 (WL_rd (rd_bstr (i := i) (j := (i + x.length)) rfl (by omega) (by omega) hcap Z1 underlying22 underlying5 underlying9) (Ta true 17 (Mv (Tx x) (Ta true 17 (Bo (.string (bs ((l.drop i).take ((i + x.length) - i)))) (Tx x) (.bool (((l.drop i).take ((i + x.length) - i)) == x)) eqg_str (bin_str_eql _ _) (Pk true (Av (.bool (((l.drop i).take ((i + x.length) - i)) == x)) (Nr ?_))))))))))))))
 have e9 : ((l.drop i).take ((i + x.length) - i) == x) = hasB l i x := by rw [show (i + x.length) - i = x.length from by omega]; rfl
 exact At_ret1 results162 (fun w q => ⟨by rw [← e9]; rfl, q⟩)
theorem c_cut {l : Bs} {i j : Nat} {k : Int} {sb bb cap : Nat} {sp : List Value} {so : SV} (hcap : l.length ≤ cap) (hij : i ≤ j) (hj : j ≤ l.length) : ∀ F w, Sat ([Cl sb 134 [Sl bb l.length cap, Iv i, slV so], Cl bb 5 (l.map u8v ++ sp)] ++ F) w → Calls prog 164 [ptr sb, Iv k, Iv j].toArray w fun e w' => e = .returned (tkVal (cutT l k i j)) ∧ Sat ([Cl sb 134 [Sl bb l.length cap, Iv i, slV so], Cl bb 5 (l.map u8v ++ sp)] ++ F) w' := by
 intro F
 refine calls_of_WC (fn := f164) func164 rfl rfl (Sr (WL_ef (ef_alloc (l := [Iv 0, Tx [], Iv 0, Iv 0]) zeroValue47 rfl) fun b1 => Nt (WC_seq (WC_draw [18] [Cl sb 134 [Sl bb l.length cap, Iv i, slV so], Cl bb 5 (l.map u8v ++ sp)] mixed (Dt 0 rfl rfl (Q0 (K2 Z1 Z1)) (Rm (Iv k) rfl) (Dt 1 rfl rfl (Q0 (K2 Z1 Z1)) (Rm (ptr sb) rfl) (Dt 2 rfl rfl (Q0 (K2 Z1 Z1)) (Rn sb 0 rfl) (Dt 3 rfl rfl (Q0 (K2 Z1 Z1)) (Rf sb 0 fa134_0 rfl) (Dt 4 rfl rfl (Q0 (K2 Z1 Z1)) (Rl sb 0 (Sl bb l.length cap) isAgg22 rfl Z0 rfl) (Dt 5 rfl rfl (Q0 (K2 Z1 Z1)) (Rm (ptr sb) rfl) (Dt 6 rfl rfl (Q0 (K2 Z1 Z1)) (Rn sb 0 rfl) (Dt 7 rfl rfl (Q0 (K2 Z1 Z1)) (Rf sb 0 fa134_1 rfl) (Dt 8 rfl rfl (Q0 (K2 Z1 Z1)) (Rl sb 1 (Iv i) isAgg3 rfl Z0 rfl) (Dt 9 rfl rfl (Q0 (K2 Z1 Z1)) (Rm (Iv j) rfl) (Dt 10 rfl rfl (Q0 (K2 Z1 Z1)) (rd_sliceLH (i := i) (j := j) runUnderlying22 sizeOf5 rfl rfl rfl (rfl) (rfl) (by omega) (by omega)) (Dt 11 rfl rfl (Q0 (K2 Z1 Z1)) (rd_bstr (i := i) (j := j) rfl (by omega) (by omega) hcap Z1 underlying22 underlying5 underlying9) (Dt 12 rfl rfl (Q0 (K2 Z1 Z1)) (Rm (ptr sb) rfl) (Dt 13 rfl rfl (Q0 (K2 Z1 Z1)) (Rn sb 0 rfl) (Dt 14 rfl rfl (Q0 (K2 Z1 Z1)) (Rf sb 0 fa134_1 rfl) (Dt 15 rfl rfl (Q0 (K2 Z1 Z1)) (Rl sb 1 (Iv i) isAgg3 rfl Z0 rfl) (Dt 16 rfl rfl (Q0 (K2 Z1 Z1)) (Rm (Iv j) rfl) (Dt 17 rfl rfl (Q0 (K2 Z1 Z1)) (rd_build (vs := [(0, Iv k), (1, .string (bs ((l.drop i).take (j - i)))), (2, Iv i), (3, Iv j)]) (v := .agg #[Iv k, .string (bs ((l.drop i).take (j - i))), Iv i, Iv j]) rfl (bd47_0_1_2_3 _ _ _ _ rfl rfl rfl rfl )) (WD_ef0 18 (by kernel_rfl) rfl rfl rfl (ef_store (b := b1) (o := 0) (v := .agg #[Iv k, .string (bs ((l.drop i).take (j - i))), Iv i, Iv j]) (vs := [Iv k, .string (bs ((l.drop i).take (j - i))), Iv i, Iv j]) sizeOf47 rfl rfl rfl rfl rfl Z0 (.put (.put (.put (.put .done))))) (late_vac (i := 18) (by kernel_rfl) (by decide)) ?_)))))))))))))))))))))))
 refine WD_done (by kernel_rfl) ?_ _
 refine At_then (WC_ret ?_)
 exact At_retC results164 isAgg47 sizeOf47 rfl Z0 rfl (fun w q => ⟨rfl, q.mono (En Z1 (En Z1 D1))⟩)
theorem runOf_step {p : UInt8 → Bool} {l : Bs} {j : Nat} {c : UInt8} (h : l[j]? = some c) (hp : p c = true) : runOf p l j = runOf p l (j + 1) + 1 := by
 obtain ⟨h1, h2⟩ := List.getElem?_eq_some_iff.1 h
 unfold runOf
 rw [List.drop_eq_getElem_cons h1, h2, List.takeWhile_cons, if_pos hp, List.length_cons]
theorem runOf_stop {p : UInt8 → Bool} {l : Bs} {j : Nat} {c : UInt8} (h : l[j]? = some c) (hp : p c = false) : runOf p l j = 0 := by
 obtain ⟨h1, h2⟩ := List.getElem?_eq_some_iff.1 h
 unfold runOf
 rw [List.drop_eq_getElem_cons h1, h2, List.takeWhile_cons, if_neg (by rw [hp]; decide)]; rfl
theorem runOf_end {p : UInt8 → Bool} {l : Bs} {j : Nat} (h : l.length ≤ j) : runOf p l j = 0 := by
 unfold runOf
 rw [List.drop_eq_nil_of_le h]; rfl
def runInv (p : UInt8 → Bool) (l : Bs) (i j : Nat) : Prop := i ≤ j ∧ j ≤ l.length ∧ i + runOf p l i = j + runOf p l j
theorem runInv_next {p : UInt8 → Bool} {l : Bs} {i j : Nat} {c : UInt8} (h : runInv p l i j) (hc : l[j]? = some c) (hp : p c = true) : runInv p l i (j + 1) := by
 obtain ⟨h1, h2, h3⟩ := h
 obtain ⟨h4, _⟩ := List.getElem?_eq_some_iff.1 hc
 rw [runOf_step hc hp] at h3
 exact ⟨by omega, by omega, by omega⟩
theorem c_word {l : Bs} {i : Nat} {sb bb cap : Nat} {sp : List Value} {so : SV} (hcap : l.length ≤ cap) (hl : l.length ≤ 1048576) (hil : i ≤ l.length) : ∀ F w, Sat ([Cl sb 134 [Sl bb l.length cap, Iv i, slV so], Cl bb 5 (l.map u8v ++ sp), (GMx gx)] ++ F) w → Calls prog 108 [ptr sb].toArray w fun e w' => e = .returned (tkVal (wordT l i)) ∧ Sat ([Cl sb 134 [Sl bb l.length cap, Iv i, slV so], Cl bb 5 (l.map u8v ++ sp), (GMx gx)] ++ F) w' := by
 intro F
 refine calls_of_WC (fn := f108) func108 rfl rfl (Sr (WL_ef (ef_alloc (l := [Iv 0, Tx [], Iv 0, Iv 0]) zeroValue47 rfl) fun b1 => Ny (Mv (ptr sb) (Nc sb 0 (Fa sb 0 fa134_1 (Lo sb 1 (Iv i) isAgg3 Z1 rfl (Av (Iv i) (Nt (WC_seq (WC_block (WC_loopF (α := Nat) (fun x => runInv (fun c => letterB c || digitB c) l i x) (fun x => [(0, ptr sb), (2, ptr b1), (3, Iv (((x) : Nat) : Int))]) (fun _ => Cl b1 47 [Iv 0, Tx [], Iv 0, Iv 0] :: Cl sb 134 [Sl bb l.length cap, Iv i, slV so] :: Cl bb 5 (l.map u8v ++ sp) :: (GMx gx) :: F) (fun x => l.length - x) i ⟨Nat.le_refl _, by omega, rfl⟩ ⟨rfl, rfl, rfl, trivial⟩ E0 ?_)))))))))))
 intro j σ hinv
 obtain ⟨hi1, hi2, hi3⟩ := id hinv
 show WC prog _ _ _ (upds σ [(0, ptr sb), (2, ptr b1), (3, Iv (((j) : Nat) : Int))]) _ (Cl b1 47 [Iv 0, Tx [], Iv 0, Iv 0] :: Cl sb 134 [Sl bb l.length cap, Iv i, slV so] :: Cl bb 5 (l.map u8v ++ sp) :: (GMx gx) :: F)
 refine Sz (Mv (Iv j) (Mv (ptr sb) (Nc sb 0 (Fa sb 0 fa134_0 (Lo sb 0 (Sl bb l.length cap) isAgg22 Z1 rfl (WL_rd (rd_lenS (a := some ⟨bb, 0, none⟩) (k := l.length) runUnderlying22 rfl) (Bo (Iv j) (Iv l.length) (.bool (decide (((j : Nat) : Int) < ((l.length : Nat) : Int)))) eqg_int (binOp_lss _ _ _ _) (Mv (.bool (decide (((j : Nat) : Int) < ((l.length : Nat) : Int)))) ?_))))))))
 cases hb2 : (decide (((j : Nat) : Int) < ((l.length : Nat) : Int)))
 · have hje : l.length ≤ j := by have h9 := hb2; simp only [decide_eq_false_iff_not] at h9; omega
   have hje2 : j = i + runOf (fun c => letterB c || digitB c) l i := by rw [runOf_end hje] at hi3; omega
   refine Pa false 16 (Pa false 16 (Pa false 16 (Pa false 16 (Pa false 16 (Pa false 16 (Pa false 16 (Pa false 16 (Pa false 16 (WL_passU (e := 25) rfl rfl (WL_passU (e := 25) rfl rfl (WL_passU (e := 25) rfl rfl (WL_passU (e := 25) rfl rfl (WL_passU (e := 25) rfl rfl (WL_passU (e := 25) rfl rfl (WL_passU (e := 25) rfl rfl (WL_passU (e := 25) rfl rfl (Pa false 16 (Pk false (Nt (WC_false rfl (WC_exit (At_thenX (At_loopX (At_blockX (At_then (Sr (Mv (ptr sb) (Mv (Iv j) (WL_callQ (Δ := [Cl sb 134 [Sl bb l.length cap, Iv i, slV so], Cl bb 5 (l.map u8v ++ sp)]) (v := .agg #[Iv ((cutT l 1 i j).kind), .string (bs (cutT l 1 i j).text), Iv ((cutT l 1 i j).pos), Iv ((cutT l 1 i j).en)]) call164 rfl (c_cut (l := l) (i := i) (j := j) hcap (by omega) (by omega)) (K2 Z1 Z1) (WL_ef (ef_alloc (l := [Iv 0, Tx [], Iv 0, Iv 0]) zeroValue47 rfl) fun b3 => Sa b3 0 [Iv ((cutT l 1 i j).kind), .string (bs (cutT l 1 i j).text), Iv ((cutT l 1 i j).pos), Iv ((cutT l 1 i j).en)] sizeOf47 Z0 (.put (.put (.put (.put .done)))) (Nz (Fa b3 0 fa47_1 (Lo b3 1 (.string (bs (cutT l 1 i j).text)) isAgg9 Z0 rfl (WL_callQ (Δ := [(GMx gx)]) (v := .bool (reservedB ((cutT l 1 i j).text))) call165 rfl (c_reserved ((cutT l 1 i j).text) (by show ((l.drop i).take (j - i)).length ≤ 1048576; rw [List.length_take]; omega)) (K1 Z4) (Nt ?_)))))))))))))))))))))))))))))))))))
   cases hb4 : (reservedB ((cutT l 1 i j).text))
   · refine Fx (WL_rd (rd_loadN (b := b3) (o := 0) (vs := [Iv ((cutT l 1 i j).kind), .string (bs (cutT l 1 i j).text), Iv ((cutT l 1 i j).pos), Iv ((cutT l 1 i j).en)]) isAgg47 sizeOf47 rfl Z1 rfl rfl) (Sa b1 0 [Iv ((cutT l 1 i j).kind), .string (bs (cutT l 1 i j).text), Iv ((cutT l 1 i j).pos), Iv ((cutT l 1 i j).en)] sizeOf47 Z4 (.put (.put (.put (.put .done)))) (Nr ?_)))
     refine At_retC results108 isAgg47 sizeOf47 rfl Z0 rfl (fun w q => ⟨?_, q.mono (En Z3 (En Z3 (En Z1 D2)))⟩)
     show _ = Ending.returned (tkVal (wordT l i))
     unfold wordT
     rw [← hje2]
     have h9 : reservedB (cutT l 1 i j).text = false := hb4
     simp only [h9, cond_true, cond_false]; try rfl
   refine Tr (Fa b3 0 fa47_0 (S1 b3 0 (Iv 2) sizeOf3 Z1 (.put .done) (Ny (WL_rd (rd_loadN (b := b3) (o := 0) (vs := [Iv 2, .string (bs (cutT l 1 i j).text), Iv ((cutT l 1 i j).pos), Iv ((cutT l 1 i j).en)]) isAgg47 sizeOf47 rfl Z0 rfl rfl) (Sa b1 0 [Iv 2, .string (bs (cutT l 1 i j).text), Iv ((cutT l 1 i j).pos), Iv ((cutT l 1 i j).en)] sizeOf47 Z4 (.put (.put (.put (.put .done)))) (Nr ?_))))))
   refine At_retC results108 isAgg47 sizeOf47 rfl Z0 rfl (fun w q => ⟨?_, q.mono (En Z3 (En Z3 (En Z2 D2)))⟩)
   show _ = Ending.returned (tkVal (wordT l i))
   unfold wordT
   rw [← hje2]
   have h9 : reservedB (cutT l 1 i j).text = true := hb4
   simp only [h9, cond_true, cond_false]; try rfl
 have hjl : j < l.length := by have h9 := hb2; simp only [decide_eq_true_eq] at h9; omega
 obtain ⟨c, hc⟩ : ∃ c, l[j]? = some c := ⟨l[j]'hjl, List.getElem?_eq_getElem _⟩
 refine Ta true 16 (Mv (ptr sb) (Ta true 16 (Nc sb 0 (Ta true 16 (Fa sb 0 fa134_0 (Ta true 16 (Lo sb 0 (Sl bb l.length cap) isAgg22 Z1 rfl (Ta true 16 (Mv (Iv j) (Ta true 16 (WL_rd (rd_idx1 (j := j) runUnderlying22 sizeOf5 rfl rfl (by omega) (by omega)) (Ta true 16 (Lo bb j (u8v c) isAgg5 Z2 (bytes_get hc) (Ta true 16 (WL_callQ (Δ := []) (v := .bool (letterB c)) call107 rfl (c_letter c) (.nil) (Ta true 16 (Mv (.bool (letterB c)) ?_)))))))))))))))))
 cases hb5 : (letterB c)
 rotate_left 1
 · refine Pa true 25 (Pa true 25 (Pa true 25 (Pa true 25 (Pa true 25 (Pa true 25 (Pa true 25 (Pa true 25 (Ta true 16 (Pk true (Pk true (Nt (WC_true rfl (WC_skip (At_then (WC_block (WC_region (Mv (Iv j) (Bo (Iv j) (Iv 1) (Iv (((j : Nat) : Int) + 1)) eqg_int (bin_add (by omega) (by omega)) (Av (Iv (((j : Nat) : Int) + 1)) (WL_nil (At_blockN ?_)))))))))))))))))))))
   refine At_againF (j + 1) (runInv_next hinv hc (by simp only [hb5, Bool.true_or, Bool.or_true])) ⟨rfl, rfl, ?_, trivial⟩ (E4 Z0 Z0 Z0 Z0) (by show l.length - (j + 1) < l.length - j; omega)
   exact congrArg (Value.int .i64) (show ((j : Nat) : Int) + 1 = ((j + 1 : Nat) : Int) by omega)
 refine Ta false 25 (Mv (ptr sb) (Ta false 25 (Nc sb 0 (Ta false 25 (Fa sb 0 fa134_0 (Ta false 25 (Lo sb 0 (Sl bb l.length cap) isAgg22 Z1 rfl (Ta false 25 (Mv (Iv j) (Ta false 25 (WL_rd (rd_idx1 (j := j) runUnderlying22 sizeOf5 rfl rfl (by omega) (by omega)) (Ta false 25 (Lo bb j (u8v c) isAgg5 Z2 (bytes_get hc) (Ta false 25 (WL_callQ (Δ := []) (v := .bool (digitB c)) call109 rfl (c_digit c) (.nil) (Ta true 16 (Pk false (Pk true (Nt ?_)))))))))))))))))))
 cases hb6 : (digitB c)
 rotate_left 1
 · refine WC_true rfl (WC_skip (At_then (WC_block (WC_region (Mv (Iv j) (Bo (Iv j) (Iv 1) (Iv (((j : Nat) : Int) + 1)) eqg_int (bin_add (by omega) (by omega)) (Av (Iv (((j : Nat) : Int) + 1)) (WL_nil (At_blockN ?_)))))))))
   refine At_againF (j + 1) (runInv_next hinv hc (by simp only [hb6, Bool.true_or, Bool.or_true])) ⟨rfl, rfl, ?_, trivial⟩ (E4 Z0 Z0 Z0 Z0) (by show l.length - (j + 1) < l.length - j; omega)
   exact congrArg (Value.int .i64) (show ((j : Nat) : Int) + 1 = ((j + 1 : Nat) : Int) by omega)
 refine WC_false rfl (WC_exit (At_thenX (At_loopX (At_blockX (At_then (WC_seq ?_))))))
 have hje2 : j = i + runOf (fun c => letterB c || digitB c) l i := by rw [runOf_stop hc (by simp only [hb5, hb6, Bool.or_self])] at hi3; omega
 refine WC_region (Mv (ptr sb) (Mv (Iv j) (WL_callQ (Δ := [Cl sb 134 [Sl bb l.length cap, Iv i, slV so], Cl bb 5 (l.map u8v ++ sp)]) (v := .agg #[Iv ((cutT l 1 i j).kind), .string (bs (cutT l 1 i j).text), Iv ((cutT l 1 i j).pos), Iv ((cutT l 1 i j).en)]) call164 rfl (c_cut (l := l) (i := i) (j := j) hcap (by omega) (by omega)) (K2 Z1 Z1) (WL_ef (ef_alloc (l := [Iv 0, Tx [], Iv 0, Iv 0]) zeroValue47 rfl) fun b7 => Sa b7 0 [Iv ((cutT l 1 i j).kind), .string (bs (cutT l 1 i j).text), Iv ((cutT l 1 i j).pos), Iv ((cutT l 1 i j).en)] sizeOf47 Z0 (.put (.put (.put (.put .done)))) (Nz (Fa b7 0 fa47_1 (Lo b7 1 (.string (bs (cutT l 1 i j).text)) isAgg9 Z0 rfl (WL_callQ (Δ := [(GMx gx)]) (v := .bool (reservedB ((cutT l 1 i j).text))) call165 rfl (c_reserved ((cutT l 1 i j).text) (by show ((l.drop i).take (j - i)).length ≤ 1048576; rw [List.length_take]; omega)) (K1 Z4) (Nt ?_)))))))))
 cases hb8 : (reservedB ((cutT l 1 i j).text))
 · refine Fx (WL_rd (rd_loadN (b := b7) (o := 0) (vs := [Iv ((cutT l 1 i j).kind), .string (bs (cutT l 1 i j).text), Iv ((cutT l 1 i j).pos), Iv ((cutT l 1 i j).en)]) isAgg47 sizeOf47 rfl Z1 rfl rfl) (Sa b1 0 [Iv ((cutT l 1 i j).kind), .string (bs (cutT l 1 i j).text), Iv ((cutT l 1 i j).pos), Iv ((cutT l 1 i j).en)] sizeOf47 Z4 (.put (.put (.put (.put .done)))) (Nr ?_)))
   refine At_retC results108 isAgg47 sizeOf47 rfl Z0 rfl (fun w q => ⟨?_, q.mono (En Z3 (En Z3 (En Z1 D2)))⟩)
   show _ = Ending.returned (tkVal (wordT l i))
   unfold wordT
   rw [← hje2]
   have h9 : reservedB (cutT l 1 i j).text = false := hb8
   simp only [h9, cond_true, cond_false]; try rfl
 refine Tr (Fa b7 0 fa47_0 (S1 b7 0 (Iv 2) sizeOf3 Z1 (.put .done) (Ny (WL_rd (rd_loadN (b := b7) (o := 0) (vs := [Iv 2, .string (bs (cutT l 1 i j).text), Iv ((cutT l 1 i j).pos), Iv ((cutT l 1 i j).en)]) isAgg47 sizeOf47 rfl Z0 rfl rfl) (Sa b1 0 [Iv 2, .string (bs (cutT l 1 i j).text), Iv ((cutT l 1 i j).pos), Iv ((cutT l 1 i j).en)] sizeOf47 Z4 (.put (.put (.put (.put .done)))) (Nr ?_))))))
 refine At_retC results108 isAgg47 sizeOf47 rfl Z0 rfl (fun w q => ⟨?_, q.mono (En Z3 (En Z3 (En Z2 D2)))⟩)
 show _ = Ending.returned (tkVal (wordT l i))
 unfold wordT
 rw [← hje2]
 have h9 : reservedB (cutT l 1 i j).text = true := hb8
 simp only [h9, cond_true, cond_false]; try rfl
end
end Go.Proofs
