/- The parser's memory: tokens, the parser, nodes; what a contract of a parser's function says; the rules for calling one. -/
import Derived.Test.YtldagpopfebbbaaGreatDoorZB
import Derived.Test.YtldagpopfebbbaaGreatDoorZA
import Derived.Laws.Cover3
set_option linter.unusedVariables false
set_option linter.unusedSimpArgs false
namespace Go.Proofs
open Go.Px Tryz
attribute [local semireducible] WL WC At WD
theorem nrm : (∀ {α β γ : Type} (m : M α) (f : α → M β) (k : β → M γ), ((m >>= f) >>= k) = (m >>= fun x => f x >>= k)) ∧ (∀ {α β : Type} (x : α) (k : α → M β), ((Pure.pure x : M α) >>= k) = k x) ∧
 (∀ {α β : Type} (k : α → M β), ((failM : M α) >>= k) = failM) ∧ (∀ k s n a l, PT.kind (.node k s n a l) = k) ∧ (∀ k s n a l, PT.num (.node k s n a l) = n) ∧ (∀ k s n a l, PT.kids (.node k s n a l) = l) ∧
 (∀ k s n a l, PT.pos (.node k s n a l) = a) ∧ (∀ k s n a l b, PT.moved (.node k s n a l) b = .node k s n b l) ∧ (takeAny [] = (Pure.pure false : M Bool)) ∧
 (∀ s l, takeAny (s :: l) = (takeM s >>= fun b => bif b then Pure.pure true else takeAny l)) ∧
 (∀ {α : Type} (x y : α), (bif true then x else y) = x) ∧ (∀ {α : Type} (x y : α), (bif false then x else y) = y) :=
 ⟨M.assoc, M.pureb, M.failb, fun _ _ _ _ _ => rfl, fun _ _ _ _ _ => rfl, fun _ _ _ _ _ => rfl, fun _ _ _ _ _ => rfl, fun _ _ _ _ _ _ => rfl, rfl, fun _ _ => rfl, fun _ _ => rfl, fun _ _ => rfl⟩
theorem bpureH {α : Type} {m : M α} {ts : List Tk} {o : Option (Except Int (α × List Tk))} (H : m ts = o) : (m >>= fun x => (Pure.pure x : M α)) ts = o := by rw [M.bpure]; exact H
theorem nrb : (!true) = false ∧ (!false) = true ∧ (∀ b : Bool, (true && b) = b) ∧ (∀ b : Bool, (false && b) = false) ∧ (∀ b : Bool, (b && true) = b) ∧ (∀ b : Bool, (b && false) = false) ∧
 (∀ b : Bool, (true || b) = true) ∧ (∀ b : Bool, (false || b) = b) ∧ (∀ b : Bool, (b || true) = true) ∧ (∀ b : Bool, (b || false) = b) := by
 refine ⟨rfl, rfl, ?_, ?_, ?_, ?_, ?_, ?_, ?_, ?_⟩ <;> intro b <;> cases b <;> rfl
theorem nr : type_of% nrm ∧ type_of% nrb := ⟨nrm, nrb⟩
def tkCells (t : Tk) : List Value := [.int .i64 t.kind, .string (bs t.text), .int .i64 t.pos, .int .i64 t.en]
def okTk (t : Tk) : Prop :=
 (t.kind = 9 → ∀ c ∈ t.text.drop 1, c ∉ ([40, 41, 91, 93, 123, 125] : List UInt8)) ∧ (t.kind = 3 → t.text ≠ [] ∧ (∀ c ∈ t.text, 48 ≤ c.toNat ∧ c.toNat ≤ 57) ∧ t.text.length < 19) ∧ (0 ≤ t.pos ∧ t.pos + t.text.length ≤ 1099511627776) ∧ t.text.length ≤ 1048576
def LOK (L : List Tk) : Prop := (∀ t ∈ L, okTk t) ∧ L.length ≤ 1099511627776 ∧ ∃ t, L.getLast? = some t ∧ t.kind = 10
def POK (L : List Tk) (i : Nat) (l : Tk) (s : Bool) (ts : List Tk) : Prop :=
 LOK L ∧ i < L.length ∧ (∃ t, L[i]? = some t ∧ ts = (bif s then l else t) :: L.drop (i + 1)) ∧ (s = true → i + 1 < L.length ∧ okTk l ∧ ∀ t, L[i]? = some t → turnT l = turnT t)
def TB (tb : Nat) (L : List Tk) : HP := Ex fun sp : List Value => Cl tb 47 (L.flatMap tkCells ++ sp)
def PO (pb tb : Nat) (L : List Tk) (cap : Nat) (ts : List Tk) : HP := Ex fun x : Nat × Tk × Bool =>
 All [Cl pb 115 [.slice (some ⟨tb, 0, none⟩) L.length cap, .int .i64 x.1, .int .i64 x.2.1.kind, .string (bs x.2.1.text), .int .i64 x.2.1.pos, .int .i64 x.2.1.en, .bool x.2.2], Pr (POK L x.1 x.2.1 x.2.2 ts)]
mutual
def TN : PT → Nat → HP
 | .node k s n a ts, q => fun h => ∃ (v : Value) (qs : List Nat), sep [Cl q 122 [.int .i64 k, .string (bs s), .int .i64 n, .slice none 0 0, .int .i64 a, v], Arr 118 1 v qs.length (qs.map ptr), TNs ts qs] h
def TNs : List PT → List Nat → HP
 | [], [] => fun _ => True
 | t :: ts, q :: qs => fun h => sep [TN t q, TNs ts qs] h
 | _, _ => fun _ => False
end
def KD (ts : List PT) (v : Value) : HP := Ex fun qs : List Nat => All [Arr 118 1 v qs.length (qs.map ptr), TNs ts qs]
theorem TN_open {k n a : Int} {s : Bs} {ts : List PT} {q : Nat} {Γ : List HP} :
 Ent (TN (.node k s n a ts) q :: Γ) ((Ex fun v : Value => All [Cl q 122 [.int .i64 k, .string (bs s), .int .i64 n, .slice none 0 0, .int .i64 a, v], KD ts v]) :: Γ) :=
 Ent.head fun h p => by
  unfold TN at p
  obtain ⟨v, qs, p⟩ := p
  refine ⟨v, ?_⟩
  exact sep_tail (fun h s => ent_ex (A := fun qs : List Nat => All [Arr 118 1 v qs.length (qs.map ptr), TNs ts qs]) qs [] h (all_ent [_, _] [] h s)) p
theorem TN_close {k n a : Int} {s : Bs} {ts : List PT} {q : Nat} {v : Value} {Γ : List HP} :
 Ent (Cl q 122 [.int .i64 k, .string (bs s), .int .i64 n, .slice none 0 0, .int .i64 a, v] :: KD ts v :: Γ) (TN (.node k s n a ts) q :: Γ) := fun h p => by
 have p := sep_swap p
 obtain ⟨qs, p⟩ := sep_ex p
 have p := sep_swap p
 obtain ⟨h1, h2, d, pc, p⟩ := p
 have p : sep ([Arr 118 1 v qs.length (qs.map ptr), TNs ts qs] ++ Γ) h2 := ent_all _ Γ h2 p
 have p : sep ([Cl q 122 [.int .i64 k, .string (bs s), .int .i64 n, .slice none 0 0, .int .i64 a, v], Arr 118 1 v qs.length (qs.map ptr), TNs ts qs] ++ Γ) h := ⟨h1, h2, d, pc, p⟩
 have p := all_ent _ Γ h p
 refine Ent.head (fun h p => ?_) h p
 unfold TN
 exact ⟨v, qs, p⟩
theorem TNs_cons_eq (t : PT) (ts : List PT) (q : Nat) (qs : List Nat) : TNs (t :: ts) (q :: qs) = All [TN t q, TNs ts qs] := by rw [TNs]; rfl
theorem TNs_nil (Γ : List HP) : Ent Γ (TNs [] [] :: Γ) := fun h s => ⟨fun _ => none, h, fun b => .inl ⟨rfl, rfl⟩, by unfold TNs; trivial, s⟩
theorem TNs_snoc : ∀ (ts : List PT) (qs : List Nat) (t : PT) (q : Nat) (Γ : List HP), Ent (TNs ts qs :: TN t q :: Γ) (TNs (ts ++ [t]) (qs ++ [q]) :: Γ)
 | [], [], t, q, Γ => fun h s => by
  have s := sep_drop s
  obtain ⟨h1, h2, d, p, s⟩ := s
  refine ⟨h1, h2, d, ?_, s⟩
  show TNs [t] [q] h1
  unfold TNs
  exact ⟨h1, fun _ => none, fun b => .inr ⟨rfl, rfl⟩, p, ⟨fun _ => none, fun _ => none, fun b => .inl ⟨rfl, rfl⟩, by unfold TNs; trivial, trivial⟩⟩
 | [], q' :: qs, t, q, Γ => fun h s => by
  obtain ⟨h1, h2, d, p, s⟩ := s
  unfold TNs at p; exact p.elim
 | t' :: ts, [], t, q, Γ => fun h s => by
  obtain ⟨h1, h2, d, p, s⟩ := s
  unfold TNs at p; exact p.elim
 | t' :: ts, q' :: qs, t, q, Γ => fun h s => by
  have e : TNs (t' :: ts) (q' :: qs) = All [TN t' q', TNs ts qs] := TNs_cons_eq _ _ _ _
  have e2 : TNs (t' :: ts ++ [t]) (q' :: qs ++ [q]) = All [TN t' q', TNs (ts ++ [t]) (qs ++ [q])] := TNs_cons_eq _ _ _ _
  rw [e] at s
  rw [e2]
  have s := ent_all _ _ h s
  exact all_ent _ _ h (sep_tail (fun h s => TNs_snoc ts qs t q Γ h s) s)
theorem kd_nil (Γ : List HP) : Ent Γ (KD [] (.slice none 0 0) :: Γ) := fun h s => by
 have s := arr_nil 118 1 _ h (TNs_nil Γ h s)
 exact ent_ex (A := fun qs : List Nat => All [Arr 118 1 (.slice none 0 0) qs.length (qs.map ptr), TNs [] qs]) [] Γ h (all_ent [_, _] Γ h s)
theorem kd_of {b : Nat} {ts : List PT} {qs : List Nat} (hl : qs.length ≤ 1099511627776) (Γ : List HP) :
 Ent (Cl b 118 (qs.map ptr) :: TNs ts qs :: Γ) (KD ts (.slice (some ⟨b, 0, none⟩) qs.length qs.length) :: Γ) := fun h s => by
 have s := arr_of_cl (T := 118) (sz := 1) (b := b) (m := qs.length) (xs := qs.map ptr) (by unfold maxLen; omega) (by simp) _ h s
 exact ent_ex (A := fun qs' : List Nat => All [Arr 118 1 (.slice (some ⟨b, 0, none⟩) qs.length qs.length) qs'.length (qs'.map ptr), TNs ts qs']) qs Γ h (all_ent [_, _] Γ h s)
theorem tns1 {t : PT} {q : Nat} (Γ : List HP) : Ent (TN t q :: Γ) (TNs [t] [q] :: Γ) := fun h s => TNs_snoc [] [] t q Γ h (TNs_nil _ h s)
theorem tns_cons {t : PT} {q : Nat} {ts : List PT} {qs : List Nat} (Γ : List HP) : Ent (TN t q :: TNs ts qs :: Γ) (TNs (t :: ts) (q :: qs) :: Γ) := fun h s => by
 rw [TNs_cons_eq]; exact all_ent [_, _] Γ h s
theorem kd1 {b : Nat} {t1 : PT} {q1 : Nat} (Γ : List HP) : Ent (Cl b 118 [ptr q1] :: TN t1 q1 :: Γ) (KD [t1] (.slice (some ⟨b, 0, none⟩) 1 1) :: Γ) :=
 (Ent.tail (tns1 Γ)).trans (kd_of (qs := [q1]) (by simp) Γ)
theorem kd2 {b : Nat} {t1 t2 : PT} {q1 q2 : Nat} (Γ : List HP) : Ent (Cl b 118 [ptr q1, ptr q2] :: TN t1 q1 :: TN t2 q2 :: Γ) (KD [t1, t2] (.slice (some ⟨b, 0, none⟩) 2 2) :: Γ) :=
 (Ent.tail ((Ent.tail (tns1 Γ)).trans (tns_cons Γ))).trans (kd_of (qs := [q1, q2]) (by simp) Γ)
theorem kd3 {b : Nat} {t1 t2 t3 : PT} {q1 q2 q3 : Nat} (Γ : List HP) : Ent (Cl b 118 [ptr q1, ptr q2, ptr q3] :: TN t1 q1 :: TN t2 q2 :: TN t3 q3 :: Γ) (KD [t1, t2, t3] (.slice (some ⟨b, 0, none⟩) 3 3) :: Γ) :=
 (Ent.tail ((Ent.tail ((Ent.tail (tns1 Γ)).trans (tns_cons Γ))).trans (tns_cons Γ))).trans (kd_of (qs := [q1, q2, q3]) (by simp) Γ)
theorem kd4 {b : Nat} {t1 t2 t3 t4 : PT} {q1 q2 q3 q4 : Nat} (Γ : List HP) : Ent (Cl b 118 [ptr q1, ptr q2, ptr q3, ptr q4] :: TN t1 q1 :: TN t2 q2 :: TN t3 q3 :: TN t4 q4 :: Γ) (KD [t1, t2, t3, t4] (.slice (some ⟨b, 0, none⟩) 4 4) :: Γ) :=
 (Ent.tail ((Ent.tail ((Ent.tail ((Ent.tail (tns1 Γ)).trans (tns_cons Γ))).trans (tns_cons Γ))).trans (tns_cons Γ))).trans (kd_of (qs := [q1, q2, q3, q4]) (by simp) Γ)
def refused (a : Int) : PanicEntry := { v := .iface 117 (.agg #[.int .i64 a]), recovered := false }
def RM (pb tb : Nat) (L : List Tk) (cap : Nat) {α : Type} (r : Except Int (α × List Tk)) (Res : α → Value → HP) (F : List HP) : Ending → World → Prop
 | .returned v, w => ∃ x ts', r = .ok (x, ts') ∧ Sat (Res x v :: PO pb tb L cap ts' :: TB tb L :: F) w
 | .panicked c, w => ∃ a, r = .error a ∧ c = [refused a] ∧ Sat (TB tb L :: F) w
 | .outgrown, _ => False
def ConM (f : FuncId) (args : List Value) (pb tb : Nat) (L : List Tk) (cap : Nat) (X : List HP) {α : Type} (m : M α) (Res : α → Value → HP) : Prop :=
 ∀ ts r, m ts = some r → ∀ F w, Sat (PO pb tb L cap ts :: TB tb L :: (X ++ F)) w → Calls prog f args.toArray w (RM pb tb L cap r Res (X ++ F))
def resN : PT → Value → HP := fun t v => Ex fun q : Nat => All [Pr (v = ptr q), TN t q]
def resV {α : Type} (val : α → Value) : α → Value → HP := fun x v => Pr (v = val x)
theorem M.bind_cases {α β : Type} {m : M α} {k : α → M β} {ts : List Tk} {r : Except Int (β × List Tk)} (H : (m >>= k) ts = some r) :
 (∃ a, m ts = some (.error a) ∧ r = .error a) ∨ ∃ x ts', m ts = some (.ok (x, ts')) ∧ k x ts' = some r := by
 have H : M.bind m k ts = some r := H
 unfold M.bind at H
 cases h : m ts with
 | none => rw [h] at H; cases H
 | some e =>
  rw [h] at H
  cases e with
  | error a => left; exact ⟨a, rfl, by simpa using H.symm⟩
  | ok p => right; exact ⟨p.1, p.2, rfl, H⟩
theorem M.of_pure {α : Type} {x : α} {ts : List Tk} {r : Except Int (α × List Tk)} (H : (Pure.pure x : M α) ts = some r) : r = .ok (x, ts) := (Option.some.inj H).symm
def Pan (Q : Post) (ρ : Env) (ds : List Deferred) (R : Ending → World → Prop) : Prop := ∀ c w, R (.panicked c) w → Q (.panic c) ρ ds w
section
variable {n : Nat} {Q : Post} {ρ : Env} {ds : List Deferred} {Γ F F0 X : List HP} {ops : Array Oper} {rest : List Oper} {t : Tmp} {d : Option Tmp} {ty : TypeId} {pos : String} {af : Array Edge}
 {pb tb cap : Nat} {L : List Tk} {α β γ : Type} {m : M α} {k : α → M β} {Res : α → Value → HP} {Res0 : β → Value → HP} {ts : List Tk} {r : Except Int (β × List Tk)} {f : FuncId} {xs : List Operand} {ats : Array TypeId} {args : List Value}
theorem WL_callM (hC : ∀ args w, (callFunc f args).run prog w = .ok (.enter f args) w) (hx : xs.map (evE n ρ) = args) (con : ConM f args pb tb L cap X m Res) (H : (m >>= k) ts = some r)
 (hs : Sels Γ (PO pb tb L cap ts :: TB tb L :: X) F) (hp : Pan Q ρ ds (RM pb tb L cap r Res0 F0)) (hd : ds = ds) (hF : Ent (TB tb L :: (X ++ F)) (TB tb L :: F0))
 (hok : ∀ x ts' v, k x ts' = some r → WL prog n ops rest Q (updO ρ d v) ds (Res x v :: PO pb tb L cap ts' :: TB tb L :: (X ++ F))) :
 WL prog n ops (⟨d, .call ⟨.value (.func f), xs.toArray, ats⟩, ty, pos, af, none⟩ :: rest) Q ρ ds Γ := by
 rcases M.bind_cases H with ⟨a, hm, rfl⟩ | ⟨x, ts', hm, hk⟩
 · refine WL_call (args := args.toArray) (R := RM pb tb L cap (.error a) Res (X ++ F)) hC (args_map hx) (fun w s => con ts _ hm F w (s.mono hs.ent)) ?_ ?_ (fun _ h => h)
   · rintro v w ⟨x, ts', h, _⟩; cases h
   rintro c w ⟨a', h, rfl, s⟩
   cases h
   exact hp _ _ ⟨a, rfl, rfl, s.mono hF⟩
 refine WL_call (args := args.toArray) (R := RM pb tb L cap (.ok (x, ts')) Res (X ++ F)) hC (args_map hx) (fun w s => con ts _ hm F w (s.mono hs.ent)) ?_ ?_ (fun _ h => h)
 · rintro v w ⟨x', ts'', h, s⟩
   cases h
   exact hok x ts' v hk w s
 rintro c w ⟨a', h, _⟩; cases h
theorem WL_callV' {val : α → Value} (hC : ∀ args w, (callFunc f args).run prog w = .ok (.enter f args) w) (hx : xs.map (evE n ρ) = args) (con : ConM f args pb tb L cap X m (resV val)) (H : (m >>= k) ts = some r)
 (hs : Sels Γ (PO pb tb L cap ts :: TB tb L :: X) F) (hp : Pan Q ρ ds (RM pb tb L cap r Res0 F0)) (hd : ds = ds) (hF : Ent (TB tb L :: (X ++ F)) (TB tb L :: F0))
 (hok : ∀ x ts', k x ts' = some r → WL prog n ops rest Q (upd ρ t (val x)) ds (PO pb tb L cap ts' :: TB tb L :: (X ++ F))) :
 WL prog n ops (⟨some t, .call ⟨.value (.func f), xs.toArray, ats⟩, ty, pos, af, none⟩ :: rest) Q ρ ds Γ :=
 WL_callM hC hx con H hs hp hd hF fun x ts' v hk => WL.pure fun hv => by subst hv; exact hok x ts' hk
theorem WL_callN {m : M PT} {k : PT → M β} (hC : ∀ args w, (callFunc f args).run prog w = .ok (.enter f args) w) (hx : xs.map (evE n ρ) = args) (con : ConM f args pb tb L cap X m resN) (H : (m >>= k) ts = some r)
 (hs : Sels Γ (PO pb tb L cap ts :: TB tb L :: X) F) (hp : Pan Q ρ ds (RM pb tb L cap r Res0 F0)) (hd : ds = ds) (hF : Ent (TB tb L :: (X ++ F)) (TB tb L :: F0))
 (hok : ∀ x ts' q, k x ts' = some r → WL prog n ops rest Q (upd ρ t (ptr q)) ds (TN x q :: PO pb tb L cap ts' :: TB tb L :: (X ++ F))) :
 WL prog n ops (⟨some t, .call ⟨.value (.func f), xs.toArray, ats⟩, ty, pos, af, none⟩ :: rest) Q ρ ds Γ :=
 WL_callM hC hx con H hs hp hd hF fun x ts' v hk => WL.ex fun q => WL.ent (ent_all [Pr (v = ptr q), TN x q] _) (WL.pure fun hv => by subst hv; exact hok x ts' q hk)
theorem Cv {val : α → Value} (hC : ∀ args w, (callFunc f args).run prog w = .ok (.enter f args) w) (con : ConM f args pb tb L cap X m (resV val)) (H : (m >>= k) ts = some r)
 (hs : Sels Γ (PO pb tb L cap ts :: TB tb L :: X) F) (hF : Ent (TB tb L :: (X ++ F)) (TB tb L :: F0))
 (hok : ∀ x ts', k x ts' = some r → WL prog n ops rest Q (upd ρ t (val x)) ds (PO pb tb L cap ts' :: TB tb L :: (X ++ F)))
 (hx : xs.map (evE n ρ) = args := by exact rfl) (hp : Pan Q ρ ds (RM pb tb L cap r Res0 F0) := by exact fun _ _ h => ⟨rfl, h⟩) :
 WL prog n ops (⟨some t, .call ⟨.value (.func f), xs.toArray, ats⟩, ty, pos, af, none⟩ :: rest) Q ρ ds Γ := WL_callV' hC hx con H hs hp rfl hF hok
theorem Cn {m : M PT} {k : PT → M β} (hC : ∀ args w, (callFunc f args).run prog w = .ok (.enter f args) w) (con : ConM f args pb tb L cap X m resN) (H : (m >>= k) ts = some r)
 (hs : Sels Γ (PO pb tb L cap ts :: TB tb L :: X) F) (hF : Ent (TB tb L :: (X ++ F)) (TB tb L :: F0))
 (hok : ∀ x ts' q, k x ts' = some r → WL prog n ops rest Q (upd ρ t (ptr q)) ds (TN x q :: PO pb tb L cap ts' :: TB tb L :: (X ++ F)))
 (hx : xs.map (evE n ρ) = args := by exact rfl) (hp : Pan Q ρ ds (RM pb tb L cap r Res0 F0) := by exact fun _ _ h => ⟨rfl, h⟩) :
 WL prog n ops (⟨some t, .call ⟨.value (.func f), xs.toArray, ats⟩, ty, pos, af, none⟩ :: rest) Q ρ ds Γ := WL_callN hC hx con H hs hp rfl hF hok
theorem WL_fail (hC : ∀ args w, (callFunc f args).run prog w = .ok (.enter f args) w) (hx : xs.map (evE n ρ) = args) (con : ∀ {α : Type} (Res : α → Value → HP), ConM f args pb tb L cap [] (failM : M α) Res) (H : (failM : M β) ts = some r)
 (hs : Sels Γ (PO pb tb L cap ts :: TB tb L :: []) F) (hp : Pan Q ρ ds (RM pb tb L cap r Res0 F0)) (hd : ds = ds) (hF : Ent (TB tb L :: F) (TB tb L :: F0)) :
 WL prog n ops (⟨d, .call ⟨.value (.func f), xs.toArray, ats⟩, ty, pos, af, none⟩ :: rest) Q ρ ds Γ :=
 WL_callM (X := []) (k := fun x => pure x) hC hx (con (fun _ _ => Pr True)) (by rw [M.bpure]; exact H) hs hp hd hF fun x ts' v hk => by
  exfalso
  cases ts with
  | nil => cases H
  | cons t l =>
   have h1 : r = .error t.pos := (Option.some.inj H).symm
   rw [h1] at hk
   have := M.of_pure hk
   cases this
theorem WL_callP {Δ0 Δ : List HP} {v : Value} (hC : ∀ args w, (callFunc f args).run prog w = .ok (.enter f args) w) (hx : xs.map (evE n ρ) = args)
 (con : ∀ F w, Sat (Δ0 ++ F) w → Calls prog f args.toArray w fun e w' => e = .returned v ∧ Sat (Δ ++ F) w') (hs : Sels Γ Δ0 F)
 (hok : WL prog n ops rest Q (upd ρ t v) ds (Δ ++ F)) : WL prog n ops (⟨some t, .call ⟨.value (.func f), xs.toArray, ats⟩, ty, pos, af, none⟩ :: rest) Q ρ ds Γ :=
 WL_call (args := args.toArray) hC (args_map hx) (fun w s => con F w (s.mono hs.ent)) (fun v' w h => by obtain ⟨h, s⟩ := h; cases h; exact hok w s) (fun c w h => by cases h.1) (fun w h => by cases h.1)
theorem WL_callQ {Δ : List HP} {v : Value} (hC : ∀ args w, (callFunc f args).run prog w = .ok (.enter f args) w) (hx : xs.map (evE n ρ) = args)
 (con : ∀ F w, Sat (Δ ++ F) w → Calls prog f args.toArray w fun e w' => e = .returned v ∧ Sat (Δ ++ F) w') (hs : Sels Γ Δ F)
 (hok : WL prog n ops rest Q (upd ρ t v) ds (Δ ++ F)) : WL prog n ops (⟨some t, .call ⟨.value (.func f), xs.toArray, ats⟩, ty, pos, af, none⟩ :: rest) Q ρ ds Γ := WL_callP hC hx con hs hok
end
end Go.Proofs

namespace Go.Proofs
open Go.Px Tryz
attribute [local semireducible] WL WC At WD
abbrev tkVal (t : Tk) : Value := .agg #[.int .i64 t.kind, .string (bs t.text), .int .i64 t.pos, .int .i64 t.en]
abbrev boVal (b : Bool) : Value := .bool b
abbrev stVal (s : Bs) : Value := .string (bs s)
abbrev unVal (_ : Unit) : Value := .tuple #[]
def fidOf : NT → FuncId
 | .statement => 86 | .expr => 87 | .typed => 88 | .block => 133 | .branch => 135 | .round => 136 | .cond => 143 | .rows => 144 | .objectType => 187 | .plain => 194 | .optional => 214 | .args => 215
 | .part => 216 | .ref => 220 | .piece => 221 | .unary => 224 | .arrowType => 225 | .postf => 244 | .primary => 257 | .given => 259 | .template => 263 | .object => 265
 | .loop _ => 137 | .ended _ _ _ => 138 | .tri _ => 140 | .arrowed _ => 142 | .enu _ _ => 179 | .variabl _ _ => 180 | .functio _ _ => 181 | .clas _ => 182 | .namespac _ => 183
 | .refs _ => 186 | .params _ => 192 | .level _ => 193 | .worded _ => 264
def argsOf (pb : Nat) : NT → List Value
 | .loop a => [ptr pb, .int .i64 a] | .ended k a m => [ptr pb, .int .i64 k, .int .i64 a, .bool m] | .tri a => [ptr pb, .int .i64 a] | .arrowed a => [ptr pb, .int .i64 a]
 | .enu n a => [ptr pb, .int .i64 n, .int .i64 a] | .variabl n a => [ptr pb, .int .i64 n, .int .i64 a] | .functio k a => [ptr pb, .int .i64 k, .int .i64 a] | .clas a => [ptr pb, .int .i64 a] | .namespac a => [ptr pb, .int .i64 a]
 | .refs w => [ptr pb, .string (bs w)] | .params m => [ptr pb, .bool m] | .level n => [ptr pb, .int .i64 n] | .worded t => [ptr pb, tkVal t]
 | _ => [ptr pb]
def CG (g : NT → M PT) : Prop := ∀ nt pb tb L cap, ConM (fidOf nt) (argsOf pb nt) pb tb L cap [] (g nt) resN
section
variable {n : Nat} {Q : Post} {ρ : Env} {ds : List Deferred} {Γ F F0 F' X : List HP} {ops : Array Oper} {rest : List Oper} {t : Tmp} {d : Option Tmp} {ty : TypeId} {pos : String} {af : Array Edge}
 {pb tb cap : Nat} {L : List Tk} {ts : List Tk} {xs : List Operand} {ats : Array TypeId}
theorem c_made {k nu a : Int} {s : Bs} {v : Value} {l : List PT} (hv : isOne v = true) (F : List HP) (w : World) (hs : Sat (KD l v :: F) w) :
 Calls prog 84 [.int .i64 k, .string (bs s), .int .i64 nu, .int .i64 a, v].toArray w fun e w' => ∃ q, e = .returned (ptr q) ∧ Sat (TN (.node k s nu a l) q :: F) w' := by
 revert w
 refine calls_of_WC (fn := f84) func84 rfl rfl ?_
 refine WC_seq ?_
 refine WC_region ?_
 refine WL_rd (rd_assign rfl) ?_
 refine WL_nil ?_
 refine At_then ?_
 refine WC_seq ?_
 refine WC_region ?_
 refine WL_rd (rd_move (v := .int .i64 k) rfl) ?_
 refine WL_rd (rd_move (v := .string (bs s)) rfl) ?_
 refine WL_rd (rd_move (v := .int .i64 nu) rfl) ?_
 refine WL_rd (rd_move (v := .int .i64 a) rfl) ?_
 refine WL_rd (rd_build (vs := [(0, .int .i64 k), (1, .string (bs s)), (2, .int .i64 nu), (4, .int .i64 a)]) rfl (bd39_0_1_2_4 _ _ _ _ rfl rfl rfl rfl)) ?_
 refine WL_rd (rd_move (v := v) rfl) ?_
 refine WL_rd (rd_build (vs := [(0, .agg #[.int .i64 k, .string (bs s), .int .i64 nu, .slice none 0 0, .int .i64 a]), (1, v)]) rfl (bd122_0_1 _ _ _ _ _ _ hv)) ?_
 refine WL_ef (ef_box (l := [.int .i64 k, .string (bs s), .int .i64 nu, .slice none 0 0, .int .i64 a, v]) rfl rfl) fun q => ?_
 refine WL_rd (rd_assign (v := ptr q) rfl) ?_
 refine WL_nil ?_
 refine At_then ?_
 refine WC_ret ?_
 exact At_ret1 results84 fun w s => ⟨q, rfl, s.mono TN_close⟩
theorem WL_made {k nu a : Int} {s : Bs} {v : Value} {l : List PT} (hv : isOne v = true) (hx : xs.map (evE n ρ) = [.int .i64 k, .string (bs s), .int .i64 nu, .int .i64 a, v])
 (hs : Ent Γ (KD l v :: F)) (hok : ∀ q, WL prog n ops rest Q (upd ρ t (ptr q)) ds (TN (.node k s nu a l) q :: F)) :
 WL prog n ops (⟨some t, .call ⟨.value (.func 84), xs.toArray, ats⟩, ty, pos, af, none⟩ :: rest) Q ρ ds Γ :=
 WL_call call84 (args_map hx) (fun w s => c_made hv F w (s.mono hs)) (fun v' w h => by obtain ⟨q, h, s⟩ := h; cases h; exact hok q w s) (fun c w h => by obtain ⟨q, h, _⟩ := h; cases h) (fun w h => by obtain ⟨q, h, _⟩ := h; cases h)
theorem ent_kd0 : Ent Γ (KD [] (.slice none 0 0) :: Γ) := kd_nil Γ
theorem ent_kd1 {b : Nat} {t1 : PT} {q1 : Nat} (h : Sels Γ [Cl b 118 [ptr q1], TN t1 q1] F) : Ent Γ (KD [t1] (.slice (some ⟨b, 0, none⟩) 1 1) :: F) := h.ent.trans (kd1 F)
theorem ent_kd2 {b : Nat} {t1 t2 : PT} {q1 q2 : Nat} (h : Sels Γ [Cl b 118 [ptr q1, ptr q2], TN t1 q1, TN t2 q2] F) : Ent Γ (KD [t1, t2] (.slice (some ⟨b, 0, none⟩) 2 2) :: F) := h.ent.trans (kd2 F)
theorem ent_kd3 {b : Nat} {t1 t2 t3 : PT} {q1 q2 q3 : Nat} (h : Sels Γ [Cl b 118 [ptr q1, ptr q2, ptr q3], TN t1 q1, TN t2 q2, TN t3 q3] F) : Ent Γ (KD [t1, t2, t3] (.slice (some ⟨b, 0, none⟩) 3 3) :: F) := h.ent.trans (kd3 F)
theorem ent_kd4 {b : Nat} {t1 t2 t3 t4 : PT} {q1 q2 q3 q4 : Nat} (h : Sels Γ [Cl b 118 [ptr q1, ptr q2, ptr q3, ptr q4], TN t1 q1, TN t2 q2, TN t3 q3, TN t4 q4] F) : Ent Γ (KD [t1, t2, t3, t4] (.slice (some ⟨b, 0, none⟩) 4 4) :: F) := h.ent.trans (kd4 F)
theorem Tryz.info118 : prog.info? 118 = some t118 := by kernel_rfl
theorem Tryz.mixed : prog.follows .mixedOrders = true := by kernel_rfl
theorem tns_len : ∀ (ts : List PT) (qs : List Nat) (h : Hp), TNs ts qs h → ts.length = qs.length
 | [], [], _, _ => rfl
 | [], q :: qs, h, p => by unfold TNs at p; exact p.elim
 | t :: ts, [], h, p => by unfold TNs at p; exact p.elim
 | t :: ts, q :: qs, h, p => by
  rw [TNs_cons_eq] at p
  obtain ⟨h1, h2, d, _, h3, h4, d2, p, _⟩ := p
  simp [tns_len ts qs h3 p]
theorem kd_slice {l : List PT} {v : Value} {h : Hp} (p : KD l v h) : ∃ s, v = slV s := by
 obtain ⟨qs, h1, h2, d, p, _⟩ := p
 obtain ⟨s, e, _⟩ := arr_slice p
 exact ⟨s, e⟩
theorem ef_appendKid {x y : Operand} {l : List PT} {v : Value} {b2 q : Nat} {c : PT} {gd : Option (Nat × Bool)} (hx : evE n ρ x = v) (hy : evE n ρ y = .slice (some ⟨b2, 0, none⟩) 1 1) (hs : Sels Γ [KD l v, Cl b2 118 [ptr q], TN c q] F) (hb : l.length ≤ 1099511627776) :
 Ef prog n ρ ⟨d, .call ⟨.builtin .append, #[x, y], #[120, 120]⟩, ty, pos, af, gd⟩ Γ slV (fun s' => KD (l ++ [c]) (slV s') :: F) := fun w s => by
 have s := s.mono hs.ent
 obtain ⟨qs, s⟩ := sep_ex s
 have s : Sat (Arr 118 1 v qs.length (qs.map ptr) :: TNs l qs :: Cl b2 118 [ptr q] :: TN c q :: F) w := ent_all _ _ _ s
 have hl : l.length = qs.length := by
  have s2 := sep_drop s
  obtain ⟨_, _, _, p, _⟩ := s2
  exact tns_len _ _ _ p
 obtain ⟨s', w', hr, hS⟩ := ef_append (d := d) (ty := ty) (pos := pos) (af := af) (gd := gd) (e := 118) (z := .pointer none) (sz := 1) (bytes := 8) (m := qs.length) (m2 := 1) (c2 := 1) (o2 := 0) (news := [ptr q]) underlying120 info118 rfl rfl rfl rfl (by decide) (by decide) hx hy .zero (.succ .zero) rfl rfl rfl
  (by rw [← hl]; omega) w s
 refine ⟨s', w', hr, ?_⟩
 have hS : Sat (Arr 118 1 (slV s') (qs.length + 1) (qs.map ptr ++ [ptr q]) :: Cl b2 118 [ptr q] :: TNs l qs :: TN c q :: F) w' := hS
 have hS : Sat (Arr 118 1 (slV s') (qs ++ [q]).length ((qs ++ [q]).map ptr) :: TNs (l ++ [c]) (qs ++ [q]) :: F) w' := by
  refine hS.mono ?_
  have e1 : (qs ++ [q]).length = qs.length + 1 := by simp
  have e2 : (qs ++ [q]).map ptr = qs.map ptr ++ [ptr q] := by simp
  rw [e1, e2]
  exact Ent.tail (Ent.dropHead (TNs_snoc l qs c q F))
 exact ent_ex (A := fun qs' : List Nat => All [Arr 118 1 (slV s') qs'.length (qs'.map ptr), TNs (l ++ [c]) qs']) (qs ++ [q]) F _ (all_ent [_, _] F _ hS)
theorem WL.openN {k nu a : Int} {s : Bs} {l : List PT} {q : Nat} (hs : Sel Γ (TN (.node k s nu a l) q) F)
 (h : ∀ v, WL prog n ops rest Q ρ ds (Cl q 122 [.int .i64 k, .string (bs s), .int .i64 nu, .slice none 0 0, .int .i64 a, slV v] :: KD l (slV v) :: F)) : WL prog n ops rest Q ρ ds Γ :=
 WL.ent (hs.ent.trans TN_open) (WL.ex fun v => WL.ent (ent_all [_, _] F) (WL.know (p := ∃ s, v = slV s) (fun h s => by have s := sep_drop s; obtain ⟨_, _, _, p, _⟩ := s; exact kd_slice p) fun ⟨s, e⟩ => by subst e; exact h s))
theorem WC.openN {c : Code} {k nu a : Int} {s : Bs} {l : List PT} {q : Nat} (hs : Sel Γ (TN (.node k s nu a l) q) F)
 (h : ∀ v, WC prog n c Q ρ ds (Cl q 122 [.int .i64 k, .string (bs s), .int .i64 nu, .slice none 0 0, .int .i64 a, slV v] :: KD l (slV v) :: F)) : WC prog n c Q ρ ds Γ :=
 WC.ent (hs.ent.trans TN_open) (WC.ex fun v => WC.ent (ent_all [_, _] F) (WC.know (p := ∃ s, v = slV s) (fun h s => by have s := sep_drop s; obtain ⟨_, _, _, p, _⟩ := s; exact kd_slice p) fun ⟨s, e⟩ => by subst e; exact h s))
theorem closeN {k nu a : Int} {s : Bs} {l : List PT} {q : Nat} {v : Value} (hs : Sels Γ [Cl q 122 [.int .i64 k, .string (bs s), .int .i64 nu, .slice none 0 0, .int .i64 a, v], KD l v] F) : Ent Γ (TN (.node k s nu a l) q :: F) :=
 hs.ent.trans TN_close
section
variable {fuel : Nat} {Lb : Array Bool} {late : List Nat} {Γ0 : List HP} {β : Type} {Res0 : β → Value → HP} {r : Except Int (β × List Tk)} {f : FuncId} {args : List Value} {o : Oper}
theorem WD_callM {α : Type} {m : M α} {k : α → M β} {Res : α → Value → HP} (i : Nat) (hr : Region.ready .any ops Lb = [i]) (ho : ops[i]? = some o) (hd : o.dst = some t) (hg : o.guard = none)
 (hrun : ∀ w, (execOp (evE n ρ) o).run prog w = .ok (.enter f args.toArray) w) (con : ConM f args pb tb L cap X m Res) (H : (m >>= k) ts = some r)
 (hs : Sels Γ (PO pb tb L cap ts :: TB tb L :: X) F) (hp : Pan Q ρ ds (RM pb tb L cap r Res0 F0)) (hds : ds = ds) (hF : Ent (TB tb L :: (X ++ F)) (TB tb L :: F0))
 (hE : Ent F Γ0)
 (hok : ∀ x ts' v, k x ts' = some r → WD prog n ops late Γ0 fuel (Lb.setIfInBounds i true) Q (upd ρ t v) ds (Res x v :: PO pb tb L cap ts' :: TB tb L :: (X ++ F))) :
 WD prog n ops late Γ0 (fuel + 1) Lb Q ρ ds Γ := by
 have hX : Ent (X ++ F) F := by
  have : ∀ X : List HP, Ent (X ++ F) F := fun X => by
   induction X with
   | nil => exact Ent.refl _
   | cons A X ih => exact Ent.dropHead ih
  exact this X
 rcases M.bind_cases H with ⟨a, hm, rfl⟩ | ⟨x, ts', hm, hk⟩
 · refine WD_call i (R := RM pb tb L cap (.error a) Res (X ++ F)) hr ho hg hrun (fun w s => con ts _ hm F w (s.mono hs.ent)) ?_ ?_ ?_ (fun _ h => h)
   · rintro v w ⟨x, ts', h, _⟩; cases h
   · rintro v w ⟨x, ts', h, _⟩; cases h
   rintro c w ⟨a', h, rfl, s⟩
   cases h
   exact hp _ _ ⟨a, rfl, rfl, s.mono hF⟩
 refine WD_call i (R := RM pb tb L cap (.ok (x, ts')) Res (X ++ F)) hr ho hg hrun (fun w s => con ts _ hm F w (s.mono hs.ent)) ?_ ?_ ?_ (fun _ h => h)
 · rintro v w ⟨x', ts'', h, s⟩ _
   cases h
   exact s.mono (Ent.dropHead (Ent.dropHead (Ent.dropHead (hX.trans hE))))
 · rintro v w ⟨x', ts'', h, s⟩
   cases h
   rw [hd]
   exact hok x ts' v hk w s
 rintro c w ⟨a', h, _⟩; cases h
theorem WD_callN {m : M PT} {k : PT → M β} (i : Nat) (hr : Region.ready .any ops Lb = [i]) (ho : ops[i]? = some o) (hd : o.dst = some t) (hg : o.guard = none)
 (hrun : ∀ w, (execOp (evE n ρ) o).run prog w = .ok (.enter f args.toArray) w) (con : ConM f args pb tb L cap X m resN) (H : (m >>= k) ts = some r)
 (hs : Sels Γ (PO pb tb L cap ts :: TB tb L :: X) F) (hp : Pan Q ρ ds (RM pb tb L cap r Res0 F0)) (hds : ds = ds) (hF : Ent (TB tb L :: (X ++ F)) (TB tb L :: F0))
 (hE : Ent F Γ0)
 (hok : ∀ x ts' q, k x ts' = some r → WD prog n ops late Γ0 fuel (Lb.setIfInBounds i true) Q (upd ρ t (ptr q)) ds (TN x q :: PO pb tb L cap ts' :: TB tb L :: (X ++ F))) :
 WD prog n ops late Γ0 (fuel + 1) Lb Q ρ ds Γ :=
 WD_callM i hr ho hd hg hrun con H hs hp hds hF hE fun x ts' v hk => WD.ex fun q => WD.ent (ent_all [Pr (v = ptr q), TN x q] _) (WD.pure fun hv => by subst hv; exact hok x ts' q hk)
theorem WD_made {k nu a : Int} {s : Bs} {v : Value} {l : List PT} (i : Nat) (hr : Region.ready .any ops Lb = [i]) (ho : ops[i]? = some o) (hd : o.dst = some t) (hg : o.guard = none)
 (hrun : ∀ w, (execOp (evE n ρ) o).run prog w = .ok (.enter 84 [.int .i64 k, .string (bs s), .int .i64 nu, .int .i64 a, v].toArray) w) (hv : isOne v = true)
 (hs : Ent Γ (KD l v :: F)) (hE : Ent F Γ0) (hok : ∀ q, WD prog n ops late Γ0 fuel (Lb.setIfInBounds i true) Q (upd ρ t (ptr q)) ds (TN (.node k s nu a l) q :: F)) :
 WD prog n ops late Γ0 (fuel + 1) Lb Q ρ ds Γ :=
 WD_call i hr ho hg hrun (fun w s => c_made hv F w (s.mono hs))
  (fun v' w h _ => by obtain ⟨q, h, s⟩ := h; exact s.mono (Ent.dropHead hE)) (fun v' w h => by obtain ⟨q, h, s⟩ := h; cases h; rw [hd]; exact hok q w s)
  (fun c w h => by obtain ⟨q, h, _⟩ := h; cases h) (fun w h => by obtain ⟨q, h, _⟩ := h; cases h)
theorem late_vac {i : Nat} {p : Prop} (h : Lb.getD i true = true) (hi : i ∈ late) : unl late Lb → p := fun hu => by rw [hu i hi] at h; cases h
end
theorem resN_of {x : PT} {q : Nat} : Ent (TN x q :: Γ) (resN x (ptr q) :: Γ) := fun h s =>
 ent_ex (A := fun q' : Nat => All [Pr (ptr q = ptr q'), TN x q']) q Γ h (all_ent [_, _] Γ h (ent_pure rfl _ h s))
theorem fin_node {x : PT} {q : Nat} {r : Except Int (PT × List Tk)} (H : (pure x : M PT) ts = some r) (hs : Sels Γ [TN x q, PO pb tb L cap ts, TB tb L] F) (hF : Ent F F0) :
 ∀ w, Sat Γ w → RM pb tb L cap r resN F0 (.returned (ptr q)) w := fun w s =>
 ⟨x, ts, M.of_pure H, s.mono (hs.ent.trans (resN_of.trans (Ent.tail (Ent.tail (Ent.tail hF)))))⟩
theorem fin_val {α : Type} {val : α → Value} {x : α} {v : Value} {r : Except Int (α × List Tk)} (H : (pure x : M α) ts = some r) (hv : v = val x) (hs : Sels Γ [PO pb tb L cap ts, TB tb L] F) (hF : Ent F F0) :
 ∀ w, Sat Γ w → RM pb tb L cap r (resV val) F0 (.returned v) w := fun w s =>
 ⟨x, ts, M.of_pure H, s.mono (hs.ent.trans ((Ent.tail (Ent.tail hF)).trans (ent_pure hv _)))⟩
end
end Go.Proofs

namespace Go.Proofs
open Go.Px Tryz
attribute [local semireducible] WL WC At WD
theorem Sels.ent0 {Γ Δ F : List HP} (h : Sels Γ Δ F) : Ent Γ Δ := h.ent.trans (by
 have : ∀ Δ : List HP, Ent (Δ ++ F) Δ := fun Δ => by
  induction Δ with
  | nil => exact Ent.nil _
  | cons A Δ ih => exact Ent.tail ih
 exact this Δ)
theorem Q0 {Γ Δ Γ' : List HP} (h : Sels Γ Δ Γ') : Ent Γ Δ := Sels.ent0 h
theorem bin_add {T : TypeId} {a b : Int} (h0 : -9223372036854775808 ≤ a + b) (h1 : a + b ≤ 9223372036854775807) : binOp .add T (.int .i64 a) (.int .i64 b) = pure (.int .i64 (a + b)) := by
 rw [binOp_add]; unfold Op.intArith; simp only; rw [IntWalk.i64_in _ ⟨h0, h1⟩]
theorem bin_sub {T : TypeId} {a b : Int} (h0 : -9223372036854775808 ≤ a - b) (h1 : a - b ≤ 9223372036854775807) : binOp .sub T (.int .i64 a) (.int .i64 b) = pure (.int .i64 (a - b)) := by
 rw [binOp_sub]; unfold Op.intArith; simp only; rw [IntWalk.i64_in _ ⟨h0, h1⟩]
theorem bs_toList (a : Bs) : (bs a).toList = a := ByteArray.toList_mk a
theorem bin_str_eql {T : TypeId} (a b : Bs) : binOp .eql T (.string (bs a)) (.string (bs b)) = pure (.bool (a == b)) := by rw [binOp_string_eql, bs_toList, bs_toList]
section
variable {n : Nat} {Q : Post} {ρ : Env} {ds : List Deferred} {Γ Γ' F F0 X : List HP} {ops : Array Oper} {rest : List Oper} {t : Tmp} {d : Option Tmp} {ty : TypeId} {pos : String} {af : Array Edge} {gd : Option (Nat × Bool)}
 {pb tb cap : Nat} {L : List Tk} {ts : List Tk} {xs : List Operand} {ats : Array TypeId}
theorem rd_min1 {x y : Operand} {us : Array TypeId} {k : IntKind} {a b : Int} (hx : evE n ρ x = .int k a) (hy : evE n ρ y = .int k b) (h : a ≤ b) :
 Rd prog n ρ ⟨d, .call ⟨.builtin .min, #[x, y], us⟩, ty, pos, af, gd⟩ Γ (.int k a) := by
 have := rd_min (P := prog) (d := d) (ty := ty) (pos := pos) (af := af) (gd := gd) (Γ := Γ) (ts := us) hx hy
 rwa [if_neg (by omega)] at this
theorem rd_min2 {x y : Operand} {us : Array TypeId} {k : IntKind} {a b : Int} (hx : evE n ρ x = .int k a) (hy : evE n ρ y = .int k b) (h : b < a) :
 Rd prog n ρ ⟨d, .call ⟨.builtin .min, #[x, y], us⟩, ty, pos, af, gd⟩ Γ (.int k b) := by
 have := rd_min (P := prog) (d := d) (ty := ty) (pos := pos) (af := af) (gd := gd) (Γ := Γ) (ts := us) hx hy
 rwa [if_pos h] at this
theorem WC.openPO {c : Code} (h : ∀ i l s, POK L i l s ts → WC prog n c Q ρ ds (Cl pb 115 [.slice (some ⟨tb, 0, none⟩) L.length cap, .int .i64 (i : Nat), .int .i64 l.kind, .string (bs l.text), .int .i64 l.pos, .int .i64 l.en, .bool s] :: Γ)) :
 WC prog n c Q ρ ds (PO pb tb L cap ts :: Γ) :=
 WC.ex fun x => WC.ent ((ent_all [_, _] Γ).trans (fun h s => sep_swap s)) (WC.pure fun hp => h x.1 x.2.1 x.2.2 hp)
theorem closePO {i : Nat} {l : Tk} {s : Bool} (hp : POK L i l s ts) : Ent (Cl pb 115 [.slice (some ⟨tb, 0, none⟩) L.length cap, .int .i64 (i : Nat), .int .i64 l.kind, .string (bs l.text), .int .i64 l.pos, .int .i64 l.en, .bool s] :: Γ) (PO pb tb L cap ts :: Γ) := fun h q => by
 have q := ent_pure hp _ h q
 have q := sep_swap q
 exact ent_ex (A := fun x : Nat × Tk × Bool => All [Cl pb 115 [.slice (some ⟨tb, 0, none⟩) L.length cap, .int .i64 x.1, .int .i64 x.2.1.kind, .string (bs x.2.1.text), .int .i64 x.2.1.pos, .int .i64 x.2.1.en, .bool x.2.2], Pr (POK L x.1 x.2.1 x.2.2 ts)]) (i, l, s) Γ h (all_ent [_, _] Γ h q)
theorem rd_tok {x : Operand} {j : Nat} {t : Tk} (hx : evE n ρ x = .pointer (some ⟨tb, 0 + j * 4, none⟩)) (hs : Sel Γ (TB tb L) Γ') (ht : L[j]? = some t) :
 Rd prog n ρ ⟨d, .load 47 x, ty, pos, af, gd⟩ Γ (tkVal t) := fun w s => by
 have s := s.mono hs.ent
 obtain ⟨sp, s⟩ := sep_ex s
 have hb := Sat.blk s
 have hcells : ∀ (L : List Tk) (j : Nat), L[j]? = some t → (((L.flatMap tkCells ++ sp).drop (j * 4)).take 4) = tkCells t := by
  intro L
  induction L with
  | nil => intro j h; simp at h
  | cons u L ih =>
   intro j h
   cases j with
   | zero =>
    obtain rfl : u = t := by simpa using h
    simp [tkCells]
   | succ j =>
    have h := ih j (by simpa using h)
    rw [List.flatMap_cons, show (j + 1) * 4 = (tkCells u).length + j * 4 by simp [tkCells]; omega, List.append_assoc, ← List.drop_drop, List.drop_left]
    exact h
 have := run_loadN (P := prog) (w := w) (t := 47) (b := tb) (o := 0 + j * 4) (n := 4) (vs := tkCells t) isAgg47 sizeOf47 hb (by rw [Nat.zero_add]; exact hcells L j ht) rfl
 simp only [execOp, hx, Sem.run_bind, this, Result.andThen_ok, Sem.run_pure]
 rfl
theorem rd_tokAddr {x y : Operand} {j len c : Nat} {i : Int} {k : IntKind} (hx : evE n ρ x = .slice (some ⟨tb, 0, none⟩) len c) (hy : evE n ρ y = .int k i) (hi : i = (j : Int)) (h1 : j < len) :
 Rd prog n ρ ⟨d, .indexAddr 43 x y, ty, pos, af, gd⟩ Γ (.pointer (some ⟨tb, 0 + j * 4, none⟩)) := by
 subst hi
 have := rd_indexAddr (P := prog) (d := d) (ty := ty) (pos := pos) (af := af) (gd := gd) (Γ := Γ) runUnderlying43 sizeOf47 hx hy (by omega) (by omega)
 simpa using this
end
section
variable {P : Program} {n : Nat} {ρ : Env} {Γ Γ' F F0 : List HP} {fn : Func} {R : Ending → World → Prop} {a : Tmp} {T : TypeId} {b m : Nat} {E : TypeId} {l : List Value} {v : Value}
theorem run_cell {w : World} {tmps : Array Value} (hA : ∀ w, (isAgg T).run P w = .ok true w) (hS : ∀ w, (sizeOf T).run P w = .ok m w) (hx : tmps.getD a undef = .pointer (some ⟨b, 0, none⟩)) (hb : w.heap[b]? = some (.cells l.toArray E (0, 0))) (hm : l.length = m) :
 (do loadVar T (← asAddr (tmps.getD a undef)) : Sem Value).run P w = .ok (.agg l.toArray) w := by
 have := run_loadN (P := P) (w := w) (t := T) (b := b) (o := 0) (n := m) (vs := l) hA hS hb (by simp [← hm]) hm
 simpa [hx, asAddr, Instr.loadAt, Instr.sureAddr] using this
theorem run_cell1 {w : World} {tmps : Array Value} (hA : ∀ w, (isAgg T).run P w = .ok false w) (hx : tmps.getD a undef = .pointer (some ⟨b, 0, none⟩)) (hb : w.heap[b]? = some (.cells [v].toArray E (0, 0))) :
 (do loadVar T (← asAddr (tmps.getD a undef)) : Sem Value).run P w = .ok v w := by
 have := run_load1 (P := P) (w := w) (t := T) (a := ⟨b, 0, none⟩) (v := v) hA (cell_of_block hb (by simp))
 simpa [hx, asAddr, Instr.loadAt, Instr.sureAddr] using this
theorem At_retC (hres : fn.results = #[.cell a T]) (hA : ∀ w, (isAgg T).run P w = .ok true w) (hS : ∀ w, (sizeOf T).run P w = .ok m w) (hx : evE fn.ntmps ρ (.tmp a) = .pointer (some ⟨b, 0, none⟩)) (hs : Sel Γ (Cl b E l) Γ') (hm : l.length = m)
 (hR : ∀ w, Sat Γ w → R (.returned (.agg l.toArray)) w) : At .ret (bodyQ P fn R) ρ [] Γ :=
 At_ret rfl (fun w s => by
  have := run_cell (P := P) (w := w) (tmps := (actOf fn.ntmps ρ []).tmps) (a := a) hA hS (by rw [actOf_getD]; exact hx) (Sat.blk (s.mono hs.ent)) hm
  simp only [results, hres]
  simpa using this) hR
end
section
variable {Γ F F0 : List HP} {pb tb cap : Nat} {L : List Tk} {ts : List Tk} {i : Nat} {l : Tk} {s : Bool}
theorem fin_valO {α : Type} {val : α → Value} {x : α} {v : Value} {r : Except Int (α × List Tk)} (H : r = .ok (x, ts)) (hv : v = val x) (hp : POK L i l s ts)
 (hs : Sels Γ [Cl pb 115 [.slice (some ⟨tb, 0, none⟩) L.length cap, .int .i64 (i : Nat), .int .i64 l.kind, .string (bs l.text), .int .i64 l.pos, .int .i64 l.en, .bool s], TB tb L] F) (hF : Ent F F0) :
 ∀ w, Sat Γ w → RM pb tb L cap r (resV val) F0 (.returned v) w := fun w q =>
 ⟨x, ts, H, q.mono (hs.ent.trans ((closePO hp).trans ((Ent.tail (Ent.tail hF)).trans (ent_pure hv _))))⟩
end
theorem ConM.frame {f : FuncId} {args : List Value} {pb tb : Nat} {L : List Tk} {cap : Nat} {α : Type} {m : M α} {Res : α → Value → HP} (Y : HP) (h : ConM f args pb tb L cap [] m Res) : ConM f args pb tb L cap [Y] m Res :=
 fun ts r hm F w s => h ts r hm (Y :: F) w s
theorem ConM.unframe {f : FuncId} {args : List Value} {pb tb : Nat} {L : List Tk} {cap : Nat} {α : Type} {m : M α} {Res : α → Value → HP} (h : ConM f args pb tb L cap [Pr True] m Res) : ConM f args pb tb L cap [] m Res :=
 fun ts r hm F w s => (h ts r hm F w (s.mono (Ent.tail (Ent.tail (ent_pure trivial F))))).mono fun e w' q => by
  cases e with
  | returned v =>
   obtain ⟨x, ts', hr, q⟩ := q
   exact ⟨x, ts', hr, q.mono (Ent.tail (Ent.tail (Ent.tail (Ent.dropHead (Ent.refl _)))))⟩
  | panicked c =>
   obtain ⟨a, hr, hc, q⟩ := q
   exact ⟨a, hr, hc, q.mono (Ent.tail (Ent.dropHead (Ent.refl _)))⟩
  | outgrown => exact q
section
variable {n : Nat} {Q : Post} {ρ : Env} {ds : List Deferred} {Γ F F0 X : List HP} {ops : Array Oper} {rest : List Oper} {t : Tmp} {d : Option Tmp} {ty : TypeId} {pos : String} {af : Array Edge}
 {pb tb cap : Nat} {L : List Tk} {β : Type} {Res0 : β → Value → HP} {ts : List Tk} {r : Except Int (β × List Tk)} {f : FuncId} {xs : List Operand} {ats : Array TypeId} {args fs cs : List Value}
theorem WL_callVN {g : Operand} {m : M PT} {k : PT → M β} (hC : ∀ args w, (callFunc f args).run prog w = .ok (.enter f args) w) (hg : evE n ρ g = .func (.func f) fs.toArray cs.toArray) (hx : fs ++ xs.map (evE n ρ) ++ cs = args) (con : ConM f args pb tb L cap X m resN) (H : (m >>= k) ts = some r)
 (hs : Sels Γ (PO pb tb L cap ts :: TB tb L :: X) F) (hp : Pan Q ρ ds (RM pb tb L cap r Res0 F0)) (hd : ds = ds) (hF : Ent (TB tb L :: (X ++ F)) (TB tb L :: F0))
 (hok : ∀ x ts' q, k x ts' = some r → WL prog n ops rest Q (upd ρ t (ptr q)) ds (TN x q :: PO pb tb L cap ts' :: TB tb L :: (X ++ F))) :
 WL prog n ops (⟨some t, .call ⟨.value g, xs.toArray, ats⟩, ty, pos, af, none⟩ :: rest) Q ρ ds Γ := by
 have hx' : fs.toArray ++ xs.toArray.map (evE n ρ) ++ cs.toArray = args.toArray := by subst hx; simp
 rcases M.bind_cases H with ⟨a, hm, rfl⟩ | ⟨x, ts', hm, hk⟩
 · refine WL_callV (args := args.toArray) (R := RM pb tb L cap (.error a) resN (X ++ F)) hC hg hx' (fun w s => con ts _ hm F w (s.mono hs.ent)) ?_ ?_ (fun _ h => h)
   · rintro v w ⟨x, ts', h, _⟩; cases h
   rintro c w ⟨a', h, rfl, s⟩
   cases h
   exact hp _ _ ⟨a, rfl, rfl, s.mono hF⟩
 refine WL_callV (args := args.toArray) (R := RM pb tb L cap (.ok (x, ts')) resN (X ++ F)) hC hg hx' (fun w s => con ts _ hm F w (s.mono hs.ent)) ?_ ?_ (fun _ h => h)
 · rintro v w ⟨x', ts'', h, s⟩
   cases h
   have : WL prog n ops rest Q (updO ρ (some t) v) ds (resN x v :: PO pb tb L cap ts' :: TB tb L :: (X ++ F)) :=
    WL.ex fun q => WL.ent (ent_all [Pr (v = ptr q), TN x q] _) (WL.pure fun hv => by subst hv; exact hok x ts' q hk)
   exact this w s
 rintro c w ⟨a', h, _⟩; cases h
end
end Go.Proofs

namespace Go.Proofs
open Go.Px Tryz
section
variable {pb tb cap K : Nat} {L : List Tk} {g : NT → M PT}
theorem c_says (t : Tk) (s : Bs) : ∀ F w, Sat ([] ++ F) w → Calls prog 176 [tkVal t, Tx s].toArray w fun e w' => e = .returned (.bool (saysB t s)) ∧ Sat ([] ++ F) w' := by
 intro F
 refine calls_of_WC (fn := f176) func176 rfl rfl (Sr (WL_ef (ef_box (v := .agg #[Iv t.kind, Tx t.text, Iv t.pos, Iv t.en]) (l := [Iv t.kind, Tx t.text, Iv t.pos, Iv t.en]) rfl rfl) fun b1 => Av (.bool false) (Ny (Fa b1 0 fa47_0 (Lo b1 0 (Iv t.kind) isAgg3 Z0 rfl (Bo (Iv t.kind) (Iv 9) (.bool (t.kind == 9)) eqg_int (binOp_eql _ _ _ _) (Mv (.bool (t.kind == 9)) ?_)))))))
 cases hb2 : (t.kind == 9)
 · refine Ta false 8 (Fa b1 0 fa47_0 (Ta false 8 (Lo b1 0 (Iv t.kind) isAgg3 Z0 rfl (Ta false 8 (Bo (Iv t.kind) (Iv 2) (.bool (t.kind == 2)) eqg_int (binOp_eql _ _ _ _) (Pk false (Mv (.bool (t.kind == 2)) ?_)))))))
   cases hb3 : (t.kind == 2)
   · refine Pa false 13 (Pa false 13 (Pa false 13 (Pa false 13 (Pk false (Av (.bool false) (Nr ?_))))))
     refine At_ret1 results176 (fun w q => ⟨?_, q.mono D1⟩)
     show Ending.returned (.bool false) = .returned (.bool (saysB t s))
     unfold saysB; simp only [hb2, hb3]; try rfl
   refine Ta true 13 (Fa b1 0 fa47_1 (Ta true 13 (Lo b1 1 (Tx t.text) isAgg9 Z0 rfl (Ta true 13 (Mv (Tx s) (Ta true 13 (Bo (Tx t.text) (Tx s) (.bool (t.text == s)) eqg_str (bin_str_eql _ _) (Pk true (Av (.bool (t.text == s)) (Nr ?_))))))))))
   refine At_ret1 results176 (fun w q => ⟨?_, q.mono D1⟩)
   show Ending.returned (.bool (t.text == s)) = .returned (.bool (saysB t s))
   unfold saysB; simp only [hb2, hb3]; try rfl
 refine Pa true 8 (Pa true 8 (Pa true 8 (Pk true (Mv (.bool true) (Ta true 13 (Fa b1 0 fa47_1 (Ta true 13 (Lo b1 1 (Tx t.text) isAgg9 Z0 rfl (Ta true 13 (Mv (Tx s) (Ta true 13 (Bo (Tx t.text) (Tx s) (.bool (t.text == s)) eqg_str (bin_str_eql _ _) (Pk true (Av (.bool (t.text == s)) (Nr ?_)))))))))))))))
 refine At_ret1 results176 (fun w q => ⟨?_, q.mono D1⟩)
 show Ending.returned (.bool (t.text == s)) = .returned (.bool (saysB t s))
 unfold saysB; simp only [hb2]; try rfl
theorem c_now : ConM 85 [ptr pb] pb tb L cap [] nowM (resV tkVal) := by
 intro ts r H F
 show ∀ w, Sat (PO pb tb L cap ts :: TB tb L :: F) w → _
 refine calls_of_WC (fn := f85) func85 rfl rfl (WC.openPO fun i l s hp => ?_)
 have hp' := hp
 obtain ⟨⟨hL1, hL2, hL3⟩, hi, ⟨t, ht, hts⟩, hs⟩ := hp'
 refine Sr (WL_ef (ef_alloc (l := [Iv 0, Tx [], Iv 0, Iv 0]) zeroValue47 rfl) fun b1 => Nz (Mv (ptr pb) (Nc pb 0 (Fa pb 0 fa115_3 (Lo pb 6 (.bool s) isAgg4 Z1 rfl (Nt ?_))))))
 cases hb2 : (s)
 · refine Fs (WC_seq (WC_draw [17] [Cl pb 115 [Sl tb L.length cap, Iv (i : Nat), Iv l.kind, Tx l.text, Iv l.pos, Iv l.en, .bool false], TB tb L] mixed (Dt 0 rfl rfl (Q0 (K2 Z1 Z1)) (Rm (ptr pb) rfl) (Dt 1 rfl rfl (Q0 (K2 Z1 Z1)) (Rn pb 0 rfl) (Dt 2 rfl rfl (Q0 (K2 Z1 Z1)) (Rf pb 0 fa115_0 rfl) (Dt 3 rfl rfl (Q0 (K2 Z1 Z1)) (Rl pb 0 (Sl tb L.length cap) isAgg43 rfl Z0 rfl) (Dt 4 rfl rfl (Q0 (K2 Z1 Z1)) (Rm (ptr pb) rfl) (Dt 5 rfl rfl (Q0 (K2 Z1 Z1)) (Rn pb 0 rfl) (Dt 6 rfl rfl (Q0 (K2 Z1 Z1)) (Rf pb 0 fa115_1 rfl) (Dt 7 rfl rfl (Q0 (K2 Z1 Z1)) (Rl pb 1 (Iv (i : Nat)) isAgg3 rfl Z0 rfl) (Dt 8 rfl rfl (Q0 (K2 Z1 Z1)) (Rm (ptr pb) rfl) (Dt 9 rfl rfl (Q0 (K2 Z1 Z1)) (Rn pb 0 rfl) (Dt 10 rfl rfl (Q0 (K2 Z1 Z1)) (Rf pb 0 fa115_0 rfl) (Dt 11 rfl rfl (Q0 (K2 Z1 Z1)) (Rl pb 0 (Sl tb L.length cap) isAgg43 rfl Z0 rfl) (Dt 12 rfl rfl (Q0 (K2 Z1 Z1)) (rd_lenS (a := (some ⟨tb, 0, none⟩)) (k := L.length) runUnderlying43 rfl) (Dt 13 rfl rfl (Q0 (K2 Z1 Z1)) (Rb (Iv (L.length : Nat)) (Iv 1) (Iv ((L.length : Nat) - 1)) rfl rfl eqg_int (bin_sub (by omega) (by omega))) (Dt 14 rfl rfl (Q0 (K2 Z1 Z1)) (rd_min1 rfl rfl (by omega)) (Dt 15 rfl rfl (Q0 (K2 Z1 Z1)) (rd_tokAddr (j := i) rfl rfl (by omega) (hi)) (Dt 16 rfl rfl (Q0 (K2 Z1 Z1)) (rd_tok (L := L) (j := i) rfl Z1 ht) (WD_ef0 17 (by kernel_rfl) rfl rfl rfl (ef_store (b := b1) (o := 0) (v := .agg #[Iv t.kind, Tx t.text, Iv t.pos, Iv t.en]) (vs := [Iv t.kind, Tx t.text, Iv t.pos, Iv t.en]) sizeOf47 rfl rfl rfl rfl rfl Z0 (.put (.put (.put (.put .done))))) (late_vac (i := 17) (by kernel_rfl) (by decide)) ?_))))))))))))))))))))
   refine WD_done (by kernel_rfl) ?_ _
   refine At_then (WC_ret ?_)
   have hr : r = .ok (t, ts) := by rw [hts, hb2] at H; rw [hts, hb2]; exact (Option.some.inj H).symm
   rw [← hb2]
   exact At_retC results85 isAgg47 sizeOf47 rfl Z0 rfl (fin_valO hr rfl hp (K2 Z1 Z1) D1)
 refine Ts (Mv (ptr pb) (Nc pb 0 (Fa pb 0 fa115_2 (WL_rd (rd_loadN (b := pb) (o := 2) (vs := [Iv l.kind, Tx l.text, Iv l.pos, Iv l.en]) isAgg47 sizeOf47 rfl Z1 rfl rfl) (Sa b1 0 [Iv l.kind, Tx l.text, Iv l.pos, Iv l.en] sizeOf47 Z0 (.put (.put (.put (.put .done)))) (Nr (At_thenR ?_)))))))
 have hr : r = .ok (l, ts) := by rw [hts, hb2] at H; rw [hts, hb2]; exact (Option.some.inj H).symm
 rw [← hb2]
 exact At_retC results85 isAgg47 sizeOf47 rfl Z0 rfl (fin_valO hr rfl hp (K2 Z1 Z1) D1)
theorem c_fail {α : Type} (Res : α → Value → HP) : ConM 89 [ptr pb] pb tb L cap [] (failM : M α) Res := by
 have e : (failM : M α) = (nowM >>= fun t => fun _ => some (.error t.pos)) := by funext ts; cases ts <;> rfl
 rw [e]
 intro ts r H F
 show ∀ w, Sat (PO pb tb L cap ts :: TB tb L :: F) w → _
 refine calls_of_WC (fn := f89) func89 rfl rfl (WC_region (Mv (ptr pb) (Cv call85 (c_now) H (K2 Z0 Z0) (.tail E0) fun t1 ts2 H => WL_rd (rd_field (u := .agg #[Iv t1.kind, Tx t1.text, Iv t1.pos, Iv t1.en]) (v := Iv t1.pos) rfl (fv47_2 _ _ _ _ )) (WL_rd (rd_build (vs := [(0, Iv t1.pos)]) (v := .agg #[Iv t1.pos]) rfl (bd117_0 _ rfl )) (WL_rd (rd_makeInterface (v := .agg #[Iv t1.pos]) rfl runUnderlying117 (fun _ h => by cases h)) (WL_panic (v := .agg #[Iv t1.pos]) rfl ?_))))))
 exact At_panic (fun w q => ⟨_, (Option.some.inj H).symm, rfl, q.mono ((Sels.ent (K1 Z1)).trans (.tail D1))⟩)
def advM (t : Tk) : M Tk := fun ts => match ts with
 | [] => none
 | [u] => some (.ok (t, [u]))
 | _ :: u :: l => some (.ok (t, u :: l))
theorem c_next : ConM 178 [ptr pb] pb tb L cap [] nextM (resV tkVal) := by
 have e : nextM = (nowM >>= advM) := by
  funext ts; match ts with
  | [] => rfl
  | [t] => rfl
  | t :: u :: l => rfl
 rw [e]
 intro ts r H F
 show ∀ w, Sat (PO pb tb L cap ts :: TB tb L :: F) w → _
 refine calls_of_WC (fn := f178) func178 rfl rfl (Sr (WL_ef (ef_alloc (l := [Iv 0, Tx [], Iv 0, Iv 0]) zeroValue47 rfl) fun b1 => Ny (Mv (ptr pb) (Cv call85 (c_now) H (K2 Z1 Z1) (.tail D1) fun t2 ts3 H => WL_ef (ef_alloc (l := [Iv 0, Tx [], Iv 0, Iv 0]) zeroValue47 rfl) fun b5 => Sa b5 0 [Iv t2.kind, Tx t2.text, Iv t2.pos, Iv t2.en] sizeOf47 Z0 (.put (.put (.put (.put .done)))) (Nt (WC_seq (WC.ent (Sels.ent (K1 Z1)) (WC.openPO fun i l s hp => ?_))))))))
 obtain ⟨⟨hL1, hL2, hL3⟩, hi, ⟨t, ht, hts⟩, hs⟩ := id hp
 by_cases hb : i + 1 < L.length
 · obtain ⟨u, hu⟩ : ∃ u, L[i + 1]? = some u := ⟨L[i + 1], by simp [hb]⟩
   have hd : L.drop (i + 1) = u :: L.drop (i + 2) := by have := List.getElem?_eq_some_iff.1 hu; obtain ⟨h1, h2⟩ := this; rw [List.drop_eq_getElem_cons h1, h2]
   have hr : r = .ok (t2, u :: L.drop (i + 2)) := by rw [hts, hd] at H; exact (Option.some.inj H).symm
   have hp2 : POK L (i + 1) l false (u :: L.drop (i + 2)) := ⟨hp.1, hb, ⟨u, hu, rfl⟩, fun h => by cases h⟩
   refine WC_region (Mv (ptr pb) (Nc pb 0 (Fa pb 0 fa115_3 (S1 pb 6 (.bool false) sizeOf4 Z0 (.skip (.skip (.skip (.skip (.skip (.skip (.put .done))))))) (Nt (WC_seq (WC_draw [13, 14, 15] [Cl pb 115 [Sl tb L.length cap, Iv (i : Nat), Iv l.kind, Tx l.text, Iv l.pos, Iv l.en, .bool false]] mixed (Dt 0 rfl rfl (Q0 (K1 Z0)) (Rm (ptr pb) rfl) (Dt 1 rfl rfl (Q0 (K1 Z0)) (Rm (ptr pb) rfl) (Dt 2 rfl rfl (Q0 (K1 Z0)) (Rn pb 0 rfl) (Dt 3 rfl rfl (Q0 (K1 Z0)) (Rf pb 0 fa115_1 rfl) (Dt 4 rfl rfl (Q0 (K1 Z0)) (Rl pb 1 (Iv (i : Nat)) isAgg3 rfl Z0 rfl) (Dt 5 rfl rfl (Q0 (K1 Z0)) (Rb (Iv (i : Nat)) (Iv 1) (Iv ((i : Nat) + 1)) rfl rfl eqg_int (bin_add (by omega) (by omega))) (Dt 6 rfl rfl (Q0 (K1 Z0)) (Rm (ptr pb) rfl) (Dt 7 rfl rfl (Q0 (K1 Z0)) (Rn pb 0 rfl) (Dt 8 rfl rfl (Q0 (K1 Z0)) (Rf pb 0 fa115_0 rfl) (Dt 9 rfl rfl (Q0 (K1 Z0)) (Rl pb 0 (Sl tb L.length cap) isAgg43 rfl Z0 rfl) (Dt 10 rfl rfl (Q0 (K1 Z0)) (rd_lenS (a := (some ⟨tb, 0, none⟩)) (k := L.length) runUnderlying43 rfl) (Dt 11 rfl rfl (Q0 (K1 Z0)) (Rb (Iv (L.length : Nat)) (Iv 1) (Iv ((L.length : Nat) - 1)) rfl rfl eqg_int (bin_sub (by omega) (by omega))) (Dt 12 rfl rfl (Q0 (K1 Z0)) (rd_min1 rfl rfl (by omega)) (WD_rd 13 (by kernel_rfl) rfl rfl rfl (Rn pb 0 rfl) (late_vac (i := 13) (by kernel_rfl) (by decide)) (WD_rd 14 (by kernel_rfl) rfl rfl rfl (Rf pb 0 fa115_1 rfl) (late_vac (i := 14) (by kernel_rfl) (by decide)) (WD_ef0 15 (by kernel_rfl) rfl rfl rfl (ef_store (b := pb) (o := 1) (v := Iv ((i : Nat) + 1)) (vs := [Iv ((i : Nat) + 1)]) sizeOf3 rfl rfl rfl rfl rfl Z0 (.skip (.put .done))) (late_vac (i := 15) (by kernel_rfl) (by decide)) ?_)))))))))))))))))))))))
   refine WD_done (by kernel_rfl) ?_ _
   refine At_then (Sr (WL_rd (rd_loadN (b := b5) (o := 0) (vs := [Iv t2.kind, Tx t2.text, Iv t2.pos, Iv t2.en]) isAgg47 sizeOf47 rfl Z1 rfl rfl) (Sa b1 0 [Iv t2.kind, Tx t2.text, Iv t2.pos, Iv t2.en] sizeOf47 Z3 (.put (.put (.put (.put .done)))) (Nr ?_))))
   exact At_retC results178 isAgg47 sizeOf47 rfl Z0 rfl (fin_valO (i := i + 1) (s := false) hr rfl hp2 (K2 Z1 Z2) D2)
 have hlast : (L.length : Int) - 1 = (i : Int) := by omega
 have hsf : s = false := by cases hs' : s with | false => rfl | true => exact absurd (hs hs').1 hb
 have hd : L.drop (i + 1) = [] := List.drop_eq_nil_of_le (by omega)
 have hr : r = .ok (t2, [t]) := by rw [hts, hd, hsf] at H; exact (Option.some.inj H).symm
 have hp2 : POK L i l false [t] := ⟨hp.1, hi, ⟨t, ht, by rw [hd]; rfl⟩, fun h => by cases h⟩
 refine WC_region (Mv (ptr pb) (Nc pb 0 (Fa pb 0 fa115_3 (S1 pb 6 (.bool false) sizeOf4 Z0 (.skip (.skip (.skip (.skip (.skip (.skip (.put .done))))))) (Nt (WC_seq (WC_draw [13, 14, 15] [Cl pb 115 [Sl tb L.length cap, Iv (i : Nat), Iv l.kind, Tx l.text, Iv l.pos, Iv l.en, .bool false]] mixed (Dt 0 rfl rfl (Q0 (K1 Z0)) (Rm (ptr pb) rfl) (Dt 1 rfl rfl (Q0 (K1 Z0)) (Rm (ptr pb) rfl) (Dt 2 rfl rfl (Q0 (K1 Z0)) (Rn pb 0 rfl) (Dt 3 rfl rfl (Q0 (K1 Z0)) (Rf pb 0 fa115_1 rfl) (Dt 4 rfl rfl (Q0 (K1 Z0)) (Rl pb 1 (Iv (i : Nat)) isAgg3 rfl Z0 rfl) (Dt 5 rfl rfl (Q0 (K1 Z0)) (Rb (Iv (i : Nat)) (Iv 1) (Iv ((i : Nat) + 1)) rfl rfl eqg_int (bin_add (by omega) (by omega))) (Dt 6 rfl rfl (Q0 (K1 Z0)) (Rm (ptr pb) rfl) (Dt 7 rfl rfl (Q0 (K1 Z0)) (Rn pb 0 rfl) (Dt 8 rfl rfl (Q0 (K1 Z0)) (Rf pb 0 fa115_0 rfl) (Dt 9 rfl rfl (Q0 (K1 Z0)) (Rl pb 0 (Sl tb L.length cap) isAgg43 rfl Z0 rfl) (Dt 10 rfl rfl (Q0 (K1 Z0)) (rd_lenS (a := (some ⟨tb, 0, none⟩)) (k := L.length) runUnderlying43 rfl) (Dt 11 rfl rfl (Q0 (K1 Z0)) (Rb (Iv (L.length : Nat)) (Iv 1) (Iv ((L.length : Nat) - 1)) rfl rfl eqg_int (bin_sub (by omega) (by omega))) (Dt 12 rfl rfl (Q0 (K1 Z0)) (rd_min2 rfl rfl (by omega)) (WD_rd 13 (by kernel_rfl) rfl rfl rfl (Rn pb 0 rfl) (late_vac (i := 13) (by kernel_rfl) (by decide)) (WD_rd 14 (by kernel_rfl) rfl rfl rfl (Rf pb 0 fa115_1 rfl) (late_vac (i := 14) (by kernel_rfl) (by decide)) (WD_ef0 15 (by kernel_rfl) rfl rfl rfl (ef_store (b := pb) (o := 1) (v := Iv ((L.length : Nat) - 1)) (vs := [Iv ((L.length : Nat) - 1)]) sizeOf3 rfl rfl rfl rfl rfl Z0 (.skip (.put .done))) (late_vac (i := 15) (by kernel_rfl) (by decide)) ?_)))))))))))))))))))))))
 refine WD_done (by kernel_rfl) ?_ _
 refine At_then (Sr (WL_rd (rd_loadN (b := b5) (o := 0) (vs := [Iv t2.kind, Tx t2.text, Iv t2.pos, Iv t2.en]) isAgg47 sizeOf47 rfl Z1 rfl rfl) (Sa b1 0 [Iv t2.kind, Tx t2.text, Iv t2.pos, Iv t2.en] sizeOf47 Z3 (.put (.put (.put (.put .done)))) (Nr ?_))))
 rw [hlast]
 exact At_retC results178 isAgg47 sizeOf47 rfl Z0 rfl (fin_valO (i := i) (s := false) hr rfl hp2 (K2 Z1 Z2) D2)
end
end Go.Proofs

namespace Go.Proofs
open Go.Px Tryz
section
variable {pb tb cap K : Nat} {L : List Tk} {g : NT → M PT}
theorem c_is (s : Bs) : ConM 132 [ptr pb, Tx s] pb tb L cap [] (isM s) (resV boVal) := by
 intro ts r H F
 show ∀ w, Sat (PO pb tb L cap ts :: TB tb L :: F) w → _
 replace H := bpureH H
 unfold isM at H
 try simp only [nr] at H
 refine calls_of_WC (fn := f132) func132 rfl rfl (Sr (Av (.bool false) (Ny (Mv (ptr pb) (Cv call85 (c_now) H (K2 Z0 Z0) (.tail E0) fun t1 ts2 H => Mv (Tx s) (WL_callQ (Δ := []) (v := .bool (saysB t1 s)) call176 rfl (c_says t1 s) .nil (Av (.bool (saysB t1 s)) (Nr ?_))))))))
 try simp only [nr] at H
 exact At_ret1 results132 (fin_val H rfl (K2 Z0 Z0) E0)
theorem c_take (s : Bs) : ConM 134 [ptr pb, Tx s] pb tb L cap [] (takeM s) (resV boVal) := by
 intro ts r H F
 show ∀ w, Sat (PO pb tb L cap ts :: TB tb L :: F) w → _
 replace H := bpureH H
 unfold takeM at H
 try simp only [nr] at H
 refine calls_of_WC (fn := f134) func134 rfl rfl (Sr (Av (.bool false) (Nz (Mv (ptr pb) (Mv (Tx s) (Cv call132 (c_is s) H (K2 Z0 Z0) (.tail E0) fun b1 ts2 H => WL_rd (rd_not (b := b1) rfl) (Nt ?_)))))))
 cases hb4 : (!b1)
 · try simp only [nr, hb4] at H
   refine Fx (Mv (ptr pb) (Cv call178 (c_next) H (K2 Z0 Z0) (.tail E0) fun t5 ts6 H => Ny (Av (.bool true) (Nr ?_))))
   try simp only [nr] at H
   exact At_ret1 results134 (fin_val H rfl (K2 Z0 Z0) E0)
 try simp only [nr, hb4] at H
 refine Ts (Av (.bool false) (Nr (At_thenR ?_)))
 try simp only [nr] at H
 exact At_ret1 results134 (fin_val H rfl (K2 Z0 Z0) E0)
theorem c_must (s : Bs) : ConM 139 [ptr pb, Tx s] pb tb L cap [] (mustM s) (resV unVal) := by
 intro ts r H F
 show ∀ w, Sat (PO pb tb L cap ts :: TB tb L :: F) w → _
 replace H := bpureH H
 unfold mustM at H
 try simp only [nr] at H
 refine calls_of_WC (fn := f139) func139 rfl rfl (Sr (Mv (ptr pb) (Mv (Tx s) (Cv call134 (c_take s) H (K2 Z0 Z0) (.tail E0) fun b1 ts2 H => WL_rd (rd_not (b := b1) rfl) (Nt ?_)))))
 cases hb4 : (!b1)
 · try simp only [nr, hb4] at H
   refine WC_false rfl (WC_skip ?_)
   try simp only [nr] at H
   exact At_end0 results139 (fin_val H rfl (K2 Z0 Z0) E0)
 try simp only [nr, hb4] at H
 refine Tr (Mv (ptr pb) ?_)
 exact WL_fail call89 rfl c_fail H (K2 Z0 Z0) (fun _ _ h => ⟨rfl, h⟩) rfl (.tail E0)
theorem c_name : ConM 184 [ptr pb] pb tb L cap [] nameM (resV stVal) := by
 intro ts r H F
 show ∀ w, Sat (PO pb tb L cap ts :: TB tb L :: F) w → _
 replace H := bpureH H
 unfold nameM at H
 try simp only [nr] at H
 refine calls_of_WC (fn := f184) func184 rfl rfl (Sr (Av (Tx []) (Nz (Mv (ptr pb) (Cv call85 (c_now) H (K2 Z0 Z0) (.tail E0) fun t1 ts2 H => WL_rd (rd_field (u := .agg #[Iv t1.kind, Tx t1.text, Iv t1.pos, Iv t1.en]) (v := Iv t1.kind) rfl (fv47_0 _ _ _ _ )) (Bo (Iv t1.kind) (Iv 1) (.bool (t1.kind != 1)) eqg_int (binOp_neq _ _ _ _) (Nt ?_)))))))
 cases hb4 : (t1.kind != 1)
 · try simp only [nr, hb4] at H
   refine Fx (Mv (ptr pb) (Cv call178 (c_next) H (K2 Z0 Z0) (.tail E0) fun t5 ts6 H => WL_rd (rd_field (u := .agg #[Iv t5.kind, Tx t5.text, Iv t5.pos, Iv t5.en]) (v := Tx t5.text) rfl (fv47_1 _ _ _ _ )) (Av (Tx t5.text) (Nr ?_))))
   try simp only [nr] at H
   exact At_ret1 results184 (fin_val H rfl (K2 Z0 Z0) E0)
 try simp only [nr, hb4] at H
 refine Tr (Mv (ptr pb) ?_)
 exact WL_fail call89 rfl c_fail H (K2 Z0 Z0) (fun _ _ h => ⟨rfl, h⟩) rfl (.tail E0)
theorem c_none : ConM 188 [ptr pb] pb tb L cap [] noneM resN := by
 intro ts r H F
 show ∀ w, Sat (PO pb tb L cap ts :: TB tb L :: F) w → _
 replace H := bpureH H
 unfold noneM at H
 try simp only [nr] at H
 refine calls_of_WC (fn := f188) func188 rfl rfl (Sr (Av (.pointer none) (Ny (Mv (ptr pb) (Cv call85 (c_now) H (K2 Z0 Z0) (.tail E0) fun t1 ts2 H => WL_rd (rd_field (u := .agg #[Iv t1.kind, Tx t1.text, Iv t1.pos, Iv t1.en]) (v := Iv t1.pos) rfl (fv47_2 _ _ _ _ )) (WL_made (k := 1) (s := []) (nu := 0) (a := t1.pos) rfl rfl (ent_kd0) fun q4 => Av (ptr q4) (Nr ?_)))))))
 try simp only [nr] at H
 exact At_ret1 results188 (fin_node H (K3 Z0 Z0 Z0) E0)
theorem c_empty : ConM 191 [ptr pb] pb tb L cap [] emptyM resN := by
 intro ts r H F
 show ∀ w, Sat (PO pb tb L cap ts :: TB tb L :: F) w → _
 replace H := bpureH H
 unfold emptyM at H
 try simp only [nr] at H
 refine calls_of_WC (fn := f191) func191 rfl rfl (Sr (Av (.pointer none) (Ny (Mv (ptr pb) (Cv call85 (c_now) H (K2 Z0 Z0) (.tail E0) fun t1 ts2 H => WL_rd (rd_field (u := .agg #[Iv t1.kind, Tx t1.text, Iv t1.pos, Iv t1.en]) (v := Iv t1.pos) rfl (fv47_2 _ _ _ _ )) (WL_made (k := 2) (s := []) (nu := 0) (a := t1.pos) rfl rfl (ent_kd0) fun q4 => Av (ptr q4) (Nr ?_)))))))
 try simp only [nr] at H
 exact At_ret1 results191 (fin_node H (K3 Z0 Z0 Z0) E0)
theorem then_tok {i : Nat} {l : Tk} {s : Bool} {ts : List Tk} (n : Nat) (hn : 1 ≤ n) (hp : POK L i l s ts) :
 ∃ u, thenM n ts = some (.ok (u, ts)) ∧ ((i + n ≤ L.length - 1 ∧ L[i + n]? = some u) ∨ (L.length - 1 < i + n ∧ L[L.length - 1]? = some u)) := by
 obtain ⟨⟨hL1, hL2, hL3⟩, hi, ⟨t, ht, hts⟩, hs⟩ := hp
 have hget : ∀ x : Tk, (x :: L.drop (i + 1))[n]? = L[i + n]? := fun x => by
  obtain ⟨k, rfl⟩ : ∃ k, n = k + 1 := ⟨n - 1, by omega⟩
  rw [List.getElem?_cons_succ, List.getElem?_drop]; congr 1; omega
 by_cases h : i + n ≤ L.length - 1
 · have hlt : i + n < L.length := by omega
   refine ⟨L[i + n], ?_, .inl ⟨h, by simp [hlt]⟩⟩
   rw [hts]
   show some _ = _
   rw [hget]
   simp [hlt]
 have hlt : L.length ≤ i + n := by omega
 have hlast : L[L.length - 1]? = some (L[L.length - 1]'(by omega)) := List.getElem?_eq_getElem (by omega)
 refine ⟨L[L.length - 1]'(by omega), ?_, .inr ⟨by omega, hlast⟩⟩
 rw [hts]
 show some _ = _
 rw [hget, List.getElem?_eq_none hlt, Option.getD_none]
 congr 3
 by_cases h1 : i + 1 < L.length
 · have hne : L.drop (i + 1) ≠ [] := by simp; omega
   rw [List.getLast?_cons, Option.getD_some]
   have : (L.drop (i + 1)).getLast?.getD (bif s then l else t) = L[L.length - 1]'(by omega) := by
    rw [List.getLast?_drop, if_neg (by omega), List.getLast?_eq_getElem?, hlast, Option.getD_some]
   exact this
 have hd : L.drop (i + 1) = [] := List.drop_eq_nil_of_le (by omega)
 have hsf : s = false := by cases hs' : s with | false => rfl | true => exact absurd (hs hs').1 h1
 rw [hd, hsf]
 have hii : i = L.length - 1 := by omega
 subst hii
 have : t = L[L.length - 1]'(by omega) := by rw [hlast] at ht; exact (Option.some.inj ht).symm
 simp [this]
theorem c_then1 : ConM 177 [ptr pb, Iv 1] pb tb L cap [] (thenM 1) (resV tkVal) := by
 intro ts r H F
 show ∀ w, Sat (PO pb tb L cap ts :: TB tb L :: F) w → _
 refine calls_of_WC (fn := f177) func177 rfl rfl (WC.openPO fun i l s hp => ?_)
 obtain ⟨⟨hL1, hL2, hL3⟩, hi, ⟨t, ht, hts⟩, hs⟩ := id hp
 obtain ⟨u, hu, hc⟩ := then_tok 1 (by omega) hp
 rw [hu] at H
 have hr : r = .ok (u, ts) := (Option.some.inj H).symm
 rcases hc with ⟨hc, hj⟩ | ⟨hc, hj⟩
 · refine Sr (WL_ef (ef_alloc (l := [Iv 0, Tx [], Iv 0, Iv 0]) zeroValue47 rfl) fun b1 => Nz (Mv (Iv 1) (Bo (Iv 1) (Iv 0) (.bool false) eqg_int (by rw [binOp_eql]; rfl) (Nt (Fs (WC_seq (WC_draw [19] [Cl pb 115 [Sl tb L.length cap, Iv (i : Nat), Iv l.kind, Tx l.text, Iv l.pos, Iv l.en, .bool s], TB tb L] mixed (Dt 0 rfl rfl (Q0 (K2 Z1 Z1)) (Rm (ptr pb) rfl) (Dt 1 rfl rfl (Q0 (K2 Z1 Z1)) (Rn pb 0 rfl) (Dt 2 rfl rfl (Q0 (K2 Z1 Z1)) (Rf pb 0 fa115_0 rfl) (Dt 3 rfl rfl (Q0 (K2 Z1 Z1)) (Rl pb 0 (Sl tb L.length cap) isAgg43 rfl Z0 rfl) (Dt 4 rfl rfl (Q0 (K2 Z1 Z1)) (Rm (ptr pb) rfl) (Dt 5 rfl rfl (Q0 (K2 Z1 Z1)) (Rn pb 0 rfl) (Dt 6 rfl rfl (Q0 (K2 Z1 Z1)) (Rf pb 0 fa115_1 rfl) (Dt 7 rfl rfl (Q0 (K2 Z1 Z1)) (Rl pb 1 (Iv (i : Nat)) isAgg3 rfl Z0 rfl) (Dt 8 rfl rfl (Q0 (K2 Z1 Z1)) (Rm (Iv 1) rfl) (Dt 9 rfl rfl (Q0 (K2 Z1 Z1)) (Rb (Iv (i : Nat)) (Iv 1) (Iv ((i : Nat) + 1)) rfl rfl eqg_int (bin_add (by omega) (by omega))) (Dt 10 rfl rfl (Q0 (K2 Z1 Z1)) (Rm (ptr pb) rfl) (Dt 11 rfl rfl (Q0 (K2 Z1 Z1)) (Rn pb 0 rfl) (Dt 12 rfl rfl (Q0 (K2 Z1 Z1)) (Rf pb 0 fa115_0 rfl) (Dt 13 rfl rfl (Q0 (K2 Z1 Z1)) (Rl pb 0 (Sl tb L.length cap) isAgg43 rfl Z0 rfl) (Dt 14 rfl rfl (Q0 (K2 Z1 Z1)) (rd_lenS (a := (some ⟨tb, 0, none⟩)) (k := L.length) runUnderlying43 rfl) (Dt 15 rfl rfl (Q0 (K2 Z1 Z1)) (Rb (Iv (L.length : Nat)) (Iv 1) (Iv ((L.length : Nat) - 1)) rfl rfl eqg_int (bin_sub (by omega) (by omega))) (Dt 16 rfl rfl (Q0 (K2 Z1 Z1)) (rd_min1 rfl rfl (by omega)) (Dt 17 rfl rfl (Q0 (K2 Z1 Z1)) (rd_tokAddr (j := i + 1) rfl rfl (by omega) (by omega)) (Dt 18 rfl rfl (Q0 (K2 Z1 Z1)) (rd_tok (L := L) (j := i + 1) rfl Z1 hj) (WD_ef0 19 (by kernel_rfl) rfl rfl rfl (ef_store (b := b1) (o := 0) (v := .agg #[Iv u.kind, Tx u.text, Iv u.pos, Iv u.en]) (vs := [Iv u.kind, Tx u.text, Iv u.pos, Iv u.en]) sizeOf47 rfl rfl rfl rfl rfl Z0 (.put (.put (.put (.put .done))))) (late_vac (i := 19) (by kernel_rfl) (by decide)) ?_)))))))))))))))))))))))))))
   refine WD_done (by kernel_rfl) ?_ _
   refine At_then (WC_ret ?_)
   exact At_retC results177 isAgg47 sizeOf47 rfl Z0 rfl (fin_valO hr rfl hp (K2 Z1 Z1) D1)
 refine Sr (WL_ef (ef_alloc (l := [Iv 0, Tx [], Iv 0, Iv 0]) zeroValue47 rfl) fun b2 => Nz (Mv (Iv 1) (Bo (Iv 1) (Iv 0) (.bool false) eqg_int (by rw [binOp_eql]; rfl) (Nt (Fs (WC_seq (WC_draw [19] [Cl pb 115 [Sl tb L.length cap, Iv (i : Nat), Iv l.kind, Tx l.text, Iv l.pos, Iv l.en, .bool s], TB tb L] mixed (Dt 0 rfl rfl (Q0 (K2 Z1 Z1)) (Rm (ptr pb) rfl) (Dt 1 rfl rfl (Q0 (K2 Z1 Z1)) (Rn pb 0 rfl) (Dt 2 rfl rfl (Q0 (K2 Z1 Z1)) (Rf pb 0 fa115_0 rfl) (Dt 3 rfl rfl (Q0 (K2 Z1 Z1)) (Rl pb 0 (Sl tb L.length cap) isAgg43 rfl Z0 rfl) (Dt 4 rfl rfl (Q0 (K2 Z1 Z1)) (Rm (ptr pb) rfl) (Dt 5 rfl rfl (Q0 (K2 Z1 Z1)) (Rn pb 0 rfl) (Dt 6 rfl rfl (Q0 (K2 Z1 Z1)) (Rf pb 0 fa115_1 rfl) (Dt 7 rfl rfl (Q0 (K2 Z1 Z1)) (Rl pb 1 (Iv (i : Nat)) isAgg3 rfl Z0 rfl) (Dt 8 rfl rfl (Q0 (K2 Z1 Z1)) (Rm (Iv 1) rfl) (Dt 9 rfl rfl (Q0 (K2 Z1 Z1)) (Rb (Iv (i : Nat)) (Iv 1) (Iv ((i : Nat) + 1)) rfl rfl eqg_int (bin_add (by omega) (by omega))) (Dt 10 rfl rfl (Q0 (K2 Z1 Z1)) (Rm (ptr pb) rfl) (Dt 11 rfl rfl (Q0 (K2 Z1 Z1)) (Rn pb 0 rfl) (Dt 12 rfl rfl (Q0 (K2 Z1 Z1)) (Rf pb 0 fa115_0 rfl) (Dt 13 rfl rfl (Q0 (K2 Z1 Z1)) (Rl pb 0 (Sl tb L.length cap) isAgg43 rfl Z0 rfl) (Dt 14 rfl rfl (Q0 (K2 Z1 Z1)) (rd_lenS (a := (some ⟨tb, 0, none⟩)) (k := L.length) runUnderlying43 rfl) (Dt 15 rfl rfl (Q0 (K2 Z1 Z1)) (Rb (Iv (L.length : Nat)) (Iv 1) (Iv ((L.length : Nat) - 1)) rfl rfl eqg_int (bin_sub (by omega) (by omega))) (Dt 16 rfl rfl (Q0 (K2 Z1 Z1)) (rd_min2 rfl rfl (by omega)) (Dt 17 rfl rfl (Q0 (K2 Z1 Z1)) (rd_tokAddr (j := L.length - 1) rfl rfl (by omega) (by omega)) (Dt 18 rfl rfl (Q0 (K2 Z1 Z1)) (rd_tok (L := L) (j := L.length - 1) rfl Z1 hj) (WD_ef0 19 (by kernel_rfl) rfl rfl rfl (ef_store (b := b2) (o := 0) (v := .agg #[Iv u.kind, Tx u.text, Iv u.pos, Iv u.en]) (vs := [Iv u.kind, Tx u.text, Iv u.pos, Iv u.en]) sizeOf47 rfl rfl rfl rfl rfl Z0 (.put (.put (.put (.put .done))))) (late_vac (i := 19) (by kernel_rfl) (by decide)) ?_)))))))))))))))))))))))))))
 refine WD_done (by kernel_rfl) ?_ _
 refine At_then (WC_ret ?_)
 exact At_retC results177 isAgg47 sizeOf47 rfl Z0 rfl (fin_valO hr rfl hp (K2 Z1 Z1) D1)
theorem c_then2 : ConM 177 [ptr pb, Iv 2] pb tb L cap [] (thenM 2) (resV tkVal) := by
 intro ts r H F
 show ∀ w, Sat (PO pb tb L cap ts :: TB tb L :: F) w → _
 refine calls_of_WC (fn := f177) func177 rfl rfl (WC.openPO fun i l s hp => ?_)
 obtain ⟨⟨hL1, hL2, hL3⟩, hi, ⟨t, ht, hts⟩, hs⟩ := id hp
 obtain ⟨u, hu, hc⟩ := then_tok 2 (by omega) hp
 rw [hu] at H
 have hr : r = .ok (u, ts) := (Option.some.inj H).symm
 rcases hc with ⟨hc, hj⟩ | ⟨hc, hj⟩
 · refine Sr (WL_ef (ef_alloc (l := [Iv 0, Tx [], Iv 0, Iv 0]) zeroValue47 rfl) fun b1 => Nz (Mv (Iv 2) (Bo (Iv 2) (Iv 0) (.bool false) eqg_int (by rw [binOp_eql]; rfl) (Nt (Fs (WC_seq (WC_draw [19] [Cl pb 115 [Sl tb L.length cap, Iv (i : Nat), Iv l.kind, Tx l.text, Iv l.pos, Iv l.en, .bool s], TB tb L] mixed (Dt 0 rfl rfl (Q0 (K2 Z1 Z1)) (Rm (ptr pb) rfl) (Dt 1 rfl rfl (Q0 (K2 Z1 Z1)) (Rn pb 0 rfl) (Dt 2 rfl rfl (Q0 (K2 Z1 Z1)) (Rf pb 0 fa115_0 rfl) (Dt 3 rfl rfl (Q0 (K2 Z1 Z1)) (Rl pb 0 (Sl tb L.length cap) isAgg43 rfl Z0 rfl) (Dt 4 rfl rfl (Q0 (K2 Z1 Z1)) (Rm (ptr pb) rfl) (Dt 5 rfl rfl (Q0 (K2 Z1 Z1)) (Rn pb 0 rfl) (Dt 6 rfl rfl (Q0 (K2 Z1 Z1)) (Rf pb 0 fa115_1 rfl) (Dt 7 rfl rfl (Q0 (K2 Z1 Z1)) (Rl pb 1 (Iv (i : Nat)) isAgg3 rfl Z0 rfl) (Dt 8 rfl rfl (Q0 (K2 Z1 Z1)) (Rm (Iv 2) rfl) (Dt 9 rfl rfl (Q0 (K2 Z1 Z1)) (Rb (Iv (i : Nat)) (Iv 2) (Iv ((i : Nat) + 2)) rfl rfl eqg_int (bin_add (by omega) (by omega))) (Dt 10 rfl rfl (Q0 (K2 Z1 Z1)) (Rm (ptr pb) rfl) (Dt 11 rfl rfl (Q0 (K2 Z1 Z1)) (Rn pb 0 rfl) (Dt 12 rfl rfl (Q0 (K2 Z1 Z1)) (Rf pb 0 fa115_0 rfl) (Dt 13 rfl rfl (Q0 (K2 Z1 Z1)) (Rl pb 0 (Sl tb L.length cap) isAgg43 rfl Z0 rfl) (Dt 14 rfl rfl (Q0 (K2 Z1 Z1)) (rd_lenS (a := (some ⟨tb, 0, none⟩)) (k := L.length) runUnderlying43 rfl) (Dt 15 rfl rfl (Q0 (K2 Z1 Z1)) (Rb (Iv (L.length : Nat)) (Iv 1) (Iv ((L.length : Nat) - 1)) rfl rfl eqg_int (bin_sub (by omega) (by omega))) (Dt 16 rfl rfl (Q0 (K2 Z1 Z1)) (rd_min1 rfl rfl (by omega)) (Dt 17 rfl rfl (Q0 (K2 Z1 Z1)) (rd_tokAddr (j := i + 2) rfl rfl (by omega) (by omega)) (Dt 18 rfl rfl (Q0 (K2 Z1 Z1)) (rd_tok (L := L) (j := i + 2) rfl Z1 hj) (WD_ef0 19 (by kernel_rfl) rfl rfl rfl (ef_store (b := b1) (o := 0) (v := .agg #[Iv u.kind, Tx u.text, Iv u.pos, Iv u.en]) (vs := [Iv u.kind, Tx u.text, Iv u.pos, Iv u.en]) sizeOf47 rfl rfl rfl rfl rfl Z0 (.put (.put (.put (.put .done))))) (late_vac (i := 19) (by kernel_rfl) (by decide)) ?_)))))))))))))))))))))))))))
   refine WD_done (by kernel_rfl) ?_ _
   refine At_then (WC_ret ?_)
   exact At_retC results177 isAgg47 sizeOf47 rfl Z0 rfl (fin_valO hr rfl hp (K2 Z1 Z1) D1)
 refine Sr (WL_ef (ef_alloc (l := [Iv 0, Tx [], Iv 0, Iv 0]) zeroValue47 rfl) fun b2 => Nz (Mv (Iv 2) (Bo (Iv 2) (Iv 0) (.bool false) eqg_int (by rw [binOp_eql]; rfl) (Nt (Fs (WC_seq (WC_draw [19] [Cl pb 115 [Sl tb L.length cap, Iv (i : Nat), Iv l.kind, Tx l.text, Iv l.pos, Iv l.en, .bool s], TB tb L] mixed (Dt 0 rfl rfl (Q0 (K2 Z1 Z1)) (Rm (ptr pb) rfl) (Dt 1 rfl rfl (Q0 (K2 Z1 Z1)) (Rn pb 0 rfl) (Dt 2 rfl rfl (Q0 (K2 Z1 Z1)) (Rf pb 0 fa115_0 rfl) (Dt 3 rfl rfl (Q0 (K2 Z1 Z1)) (Rl pb 0 (Sl tb L.length cap) isAgg43 rfl Z0 rfl) (Dt 4 rfl rfl (Q0 (K2 Z1 Z1)) (Rm (ptr pb) rfl) (Dt 5 rfl rfl (Q0 (K2 Z1 Z1)) (Rn pb 0 rfl) (Dt 6 rfl rfl (Q0 (K2 Z1 Z1)) (Rf pb 0 fa115_1 rfl) (Dt 7 rfl rfl (Q0 (K2 Z1 Z1)) (Rl pb 1 (Iv (i : Nat)) isAgg3 rfl Z0 rfl) (Dt 8 rfl rfl (Q0 (K2 Z1 Z1)) (Rm (Iv 2) rfl) (Dt 9 rfl rfl (Q0 (K2 Z1 Z1)) (Rb (Iv (i : Nat)) (Iv 2) (Iv ((i : Nat) + 2)) rfl rfl eqg_int (bin_add (by omega) (by omega))) (Dt 10 rfl rfl (Q0 (K2 Z1 Z1)) (Rm (ptr pb) rfl) (Dt 11 rfl rfl (Q0 (K2 Z1 Z1)) (Rn pb 0 rfl) (Dt 12 rfl rfl (Q0 (K2 Z1 Z1)) (Rf pb 0 fa115_0 rfl) (Dt 13 rfl rfl (Q0 (K2 Z1 Z1)) (Rl pb 0 (Sl tb L.length cap) isAgg43 rfl Z0 rfl) (Dt 14 rfl rfl (Q0 (K2 Z1 Z1)) (rd_lenS (a := (some ⟨tb, 0, none⟩)) (k := L.length) runUnderlying43 rfl) (Dt 15 rfl rfl (Q0 (K2 Z1 Z1)) (Rb (Iv (L.length : Nat)) (Iv 1) (Iv ((L.length : Nat) - 1)) rfl rfl eqg_int (bin_sub (by omega) (by omega))) (Dt 16 rfl rfl (Q0 (K2 Z1 Z1)) (rd_min2 rfl rfl (by omega)) (Dt 17 rfl rfl (Q0 (K2 Z1 Z1)) (rd_tokAddr (j := L.length - 1) rfl rfl (by omega) (by omega)) (Dt 18 rfl rfl (Q0 (K2 Z1 Z1)) (rd_tok (L := L) (j := L.length - 1) rfl Z1 hj) (WD_ef0 19 (by kernel_rfl) rfl rfl rfl (ef_store (b := b2) (o := 0) (v := .agg #[Iv u.kind, Tx u.text, Iv u.pos, Iv u.en]) (vs := [Iv u.kind, Tx u.text, Iv u.pos, Iv u.en]) sizeOf47 rfl rfl rfl rfl rfl Z0 (.put (.put (.put (.put .done))))) (late_vac (i := 19) (by kernel_rfl) (by decide)) ?_)))))))))))))))))))))))))))
 refine WD_done (by kernel_rfl) ?_ _
 refine At_then (WC_ret ?_)
 exact At_retC results177 isAgg47 sizeOf47 rfl Z0 rfl (fin_valO hr rfl hp (K2 Z1 Z1) D1)
end
end Go.Proofs

namespace Go.Proofs
open Go.Px Tryz
attribute [local semireducible] WL WC At WD
def Has (ρ : Env) : List (Nat × Value) → Prop
 | [] => True
 | (d, v) :: l => ρ d = v ∧ Has ρ l
def upds (ρ : Env) : List (Nat × Value) → Env
 | [] => ρ
 | (d, v) :: l => upd (upds ρ l) d v
theorem upd_self {ρ : Env} {d : Nat} {v : Value} (h : ρ d = v) : upd ρ d v = ρ := by
 funext t
 unfold upd
 cases e : Nat.beq t d with
 | false => rfl
 | true => rw [Nat.eq_of_beq_eq_true e]; exact h.symm
theorem Has.eq {ρ : Env} : ∀ {l : List (Nat × Value)}, Has ρ l → upds ρ l = ρ
 | [], _ => rfl
 | (d, v) :: l, h => by
  show upd (upds ρ l) d v = ρ
  rw [Has.eq h.2]
  exact upd_self h.1
theorem oofK {α β : Type} {k : α → M β} {ts : List Tk} {r : Except Int (β × List Tk)} {p : Prop} (H : ((oofM : M α) >>= k) ts = some r) : p := by cases H
section
variable {n : Nat} {Q : Post} {ρ : Env} {ds : List Deferred} {Γ Γ' F F0 X : List HP} {ops : Array Oper} {rest : List Oper} {t : Tmp} {d : Option Tmp} {ty : TypeId} {pos : String} {af : Array Edge} {gd : Option (Nat × Bool)}
theorem WC_loopF {c : Code} {α : Type} (pre : α → Prop) (vals : α → List (Nat × Value)) (H : α → List HP) (μ : α → Nat) (x0 : α) (hp : pre x0) (h0 : Has ρ (vals x0)) (hΓ : Ent Γ (H x0))
 (round : ∀ x σ, pre x → WC prog n c (loopQ (Again ds (fun x ρ => pre x ∧ Has ρ (vals x)) H μ (μ x)) Q) (upds σ (vals x)) ds (H x)) : WC prog n (.loop c) Q ρ ds Γ :=
 WC_loop (fun x ρ => pre x ∧ Has ρ (vals x)) H μ x0 ⟨hp, h0⟩ hΓ fun x ρ' h => by
  have := round x ρ' h.1
  rw [h.2.eq] at this
  exact this
theorem At_againF {α : Type} {pre : α → Prop} {vals : α → List (Nat × Value)} {H : α → List HP} {μ : α → Nat} {N : Nat} (y : α) (hp : pre y) (h0 : Has ρ (vals y)) (hΓ : Ent Γ (H y)) (hm : μ y < N) :
 At .normal (loopQ (Again ds (fun x ρ => pre x ∧ Has ρ (vals x)) H μ N) Q) ρ ds Γ := At_again y ⟨hp, h0⟩ hΓ hm
def loopE {β γ G : Type} (κ : γ → M β) (r : Except Int (β × List Tk)) (pre : G → Prop) (m : G → M γ) (vals : G → List (Nat × Value)) (x : G × List Tk) (ρ : Env) : Prop := (pre x.1 ∧ (m x.1 >>= κ) x.2 = some r) ∧ Has ρ (vals x.1)
def loopH {G : Type} (H : G → List Tk → List HP) (x : G × List Tk) : List HP := H x.1 x.2
def loopN {G : Type} (μ : G → Nat) (x : G × List Tk) : Nat := μ x.1
theorem WC_loopM {c : Code} {β γ G : Type} {κ : γ → M β} {r : Except Int (β × List Tk)} {ts0 : List Tk} (pre : G → Prop) (m : G → M γ) (vals : G → List (Nat × Value)) (H : G → List Tk → List HP) (μ : G → Nat) (x0 : G)
 (H0 : (m x0 >>= κ) ts0 = some r) (hp : pre x0) (h0 : Has ρ (vals x0)) (hΓ : Ent Γ (H x0 ts0))
 (round : ∀ x ts σ, pre x → (m x >>= κ) ts = some r →
  WC prog n c (loopQ (Again ds (loopE κ r pre m vals) (loopH H) (loopN μ) (μ x)) Q) (upds σ (vals x)) ds (H x ts)) : WC prog n (.loop c) Q ρ ds Γ :=
 WC_loopF (fun x : G × List Tk => pre x.1 ∧ (m x.1 >>= κ) x.2 = some r) (fun x => vals x.1) (fun x => H x.1 x.2) (fun x => μ x.1) (x0, ts0) ⟨hp, H0⟩ h0 hΓ fun x σ h => round x.1 x.2 σ h.1 h.2
theorem At_againM {β γ G : Type} {κ : γ → M β} {r : Except Int (β × List Tk)} {pre : G → Prop} {m : G → M γ} {vals : G → List (Nat × Value)} {H : G → List Tk → List HP} {μ : G → Nat} {N : Nat} (y : G) (ts : List Tk)
 (H0 : (m y >>= κ) ts = some r) (hp : pre y) (h0 : Has ρ (vals y)) (hΓ : Ent Γ (H y ts)) (hm : μ y < N) :
 At .normal (loopQ (Again ds (loopE κ r pre m vals) (loopH H) (loopN μ) N) Q) ρ ds Γ := At_againF (pre := fun x : G × List Tk => pre x.1 ∧ (m x.1 >>= κ) x.2 = some r) (vals := fun x => vals x.1) (H := fun x => H x.1 x.2) (μ := fun x => μ x.1) (y, ts) ⟨hp, H0⟩ h0 hΓ hm
theorem WC_scope0 {c rest : Code} (l : Nat) (hf : findLabel c l = some rest) (first : WC prog n c (scopeQ l (fun ρ₁ ds₁ w => ds₁ = ds ∧ ∃ y : Empty, False ∧ Sat [] w) Q) ρ ds Γ) : WC prog n (.scope c) Q ρ ds Γ :=
 WC_scope_jumps (α := Empty) l (fun _ _ => False) (fun _ => []) (fun _ => 0) hf
  (fun w s => by
   have := first w s
   refine wp_mono this ?_
   intro e a w q
   cases e with
   | goto l' => obtain ⟨ρ₁, ds₁, _, _, _, y, _⟩ := q; cases y
   | _ => exact q)
  (fun x => by cases x)
theorem WL_passU {j : Nat} {b : Bool} {e : Tmp} {op : Op} (hde : (ops[j]?).bind (·.dst) = some e) (hv : evE n ρ (.tmp e) = undef) (k : WL prog n ops rest Q (upd ρ t undef) ds Γ) :
 WL prog n ops (⟨some t, op, ty, pos, af, some (j, b)⟩ :: rest) Q ρ ds Γ := fun w s => by
 have hg : grd n ops ρ j = none := by
  have hv : (bif Nat.blt e n then ρ e else undef) = undef := hv
  unfold grd
  rw [hde]
  cases h : Nat.blt e n with
  | false => simp only [h, cond_false]
  | true => rw [h, cond_true] at hv; simp only [h, cond_true, hv]; rfl
 unfold wpList
 rw [if_neg (by simp only [Region.wanted, yielded_actOf, hg]; cases b <;> decide), actOf_put]
 exact k w s
theorem bs_size (s : Bs) : (bs s).size = s.length := rfl
theorem rd_lenBs {x : Operand} {T : TypeId} {s : Bs} (hU : ∀ w, (underlying T).run prog w = .ok .string w) (hx : evE n ρ x = .string (bs s)) :
 Rd prog n ρ ⟨d, .call ⟨.builtin .len, #[x], #[T]⟩, ty, pos, af, gd⟩ Γ (.int .i64 (s.length : Nat)) := rd_lenStr hU hx
theorem rd_indexBs {x y : Operand} {T : TypeId} {s : Bs} {i : Int} {k : IntKind} {j : Nat} {c : UInt8} (hU : ∀ w, (underlying T).run prog w = .ok .string w) (hx : evE n ρ x = .string (bs s)) (hy : evE n ρ y = .int k i)
 (hi : i = (j : Int)) (hc : s[j]? = some c) : Rd prog n ρ ⟨d, .index T x y, ty, pos, af, gd⟩ Γ (.int .u8 c.toNat) := fun w _ => by
 subst hi
 have h : (bs s)[((j : Int)).toNat]? = some c := by
  show (bs s)[j]? = some c
  obtain ⟨h1, h2⟩ := List.getElem?_eq_some_iff.1 hc
  have hs : j < (bs s).size := h1
  rw [getElem?_pos (bs s) j hs]
  subst h2
  rfl
 have e : (if (0 : Int) ≤ (j : Int) then (bs s)[((j : Int)).toNat]? else none) = some c := by rw [if_pos (Int.natCast_nonneg j)]; exact h
 simp only [execOp, Instr.index, hx, hy, asIntOf, Sem.run_bind, Sem.run_pure, Result.andThen_ok, hU]
 rw [e]
 rfl
theorem bs_extract (s : Bs) (i : Nat) (h : i ≤ s.length) : (bs s).extract i (bs s).size = bs (s.drop i) := by
 apply ByteArray.ext
 rw [ByteArray.data_extract]
 apply Array.ext'
 show ((s.toArray).extract i s.toArray.size).toList = s.drop i
 simp [List.take_of_length_le]
theorem rd_sliceBs {x y : Operand} {T : TypeId} {s : Bs} {i : Int} {k : IntKind} {j : Nat} (hU : ∀ w, (underlying T).run prog w = .ok .string w) (hx : evE n ρ x = .string (bs s)) (hy : evE n ρ y = .int k i)
 (hi : i = (j : Int)) (hj : j ≤ s.length) : Rd prog n ρ ⟨d, .slice T x (some y) none none, ty, pos, af, gd⟩ Γ (.string (bs (s.drop j))) := fun w _ => by
 subst hi
 have e : ((0 : Int) ≤ (j : Int) ∧ (j : Int) ≤ (((bs s).size : Nat) : Int)) := ⟨Int.natCast_nonneg j, by rw [bs_size]; omega⟩
 simp only [execOp, Instr.sliceAt, Instr.slice, Instr.sliceBounds, Instr.sliceBound, hx, hy, asIntOf, Sem.run_bind, Sem.run_pure, Result.andThen_ok, hU, Option.map_some, Option.map_none, if_pos e, Int.toNat_natCast, bs_extract s j hj, Option.isSome_none, Bool.false_eq_true, if_false]
theorem bs_append (a b : Bs) : bs a ++ bs b = bs (a ++ b) := by
 apply ByteArray.ext
 rw [ByteArray.data_append]
 apply Array.ext'
 simp [bs]
theorem rd_addBs {x y : Operand} {T U : TypeId} {a b : Bs} (hx : evE n ρ x = .string (bs a)) (hy : evE n ρ y = .string (bs b)) (h : a.length + b.length ≤ 9223372036854775807) :
 Rd prog n ρ ⟨d, .binOp .add T x y U, ty, pos, af, gd⟩ Γ (.string (bs (a ++ b))) := fun w _ => by
 have := run_string_add_sum (P := prog) w (bs a) (bs b) h
 have e : eqGuard .add T x y (.string (bs a)) (.string (bs b)) = pure () := rfl
 simp only [execOp, hx, hy, e, binOp_string_add, Sem.run_bind, this, Result.andThen_ok, Sem.run_pure, bs_append]
theorem rd_neg {x : Operand} {T : TypeId} {a : Int} (h : evE n ρ x = .int .i64 a) (h0 : -9223372036854775808 ≤ 0 - a) (h1 : 0 - a ≤ 9223372036854775807) : Rd prog n ρ ⟨d, .unOp .neg T x, ty, pos, af, gd⟩ Γ (.int .i64 (-a)) := fun w _ => by
 simp only [execOp, h, unary_neg]
 unfold Op.intArith
 simp only
 rw [IntWalk.i64_in _ ⟨h0, h1⟩, Int.zero_sub]
 rfl
end
section
variable {n : Nat} {Q : Post} {ρ : Env} {ds : List Deferred} {Γ Γ' F F0 X : List HP} {ops : Array Oper} {rest : List Oper} {t : Tmp} {ty : TypeId} {pos : String} {af : Array Edge}
 {pb tb cap : Nat} {L : List Tk} {α β : Type} {m : M α} {k : α → M β} {Res0 : β → Value → HP} {ts : List Tk} {r : Except Int (β × List Tk)} {f : FuncId} {xs : List Operand} {ats : Array TypeId} {args : List Value}
theorem po_know (hs : Sel Γ (PO pb tb L cap ts) F) : ∀ h, sep Γ h → ∃ i l s, POK L i l s ts := fun h q => by
 have q := hs.ent h q
 obtain ⟨x, q⟩ := sep_ex q
 have q := ent_all [_, _] _ h q
 exact ⟨x.1, x.2.1, x.2.2, sep_pure (sep_swap q)⟩
theorem WL_callVm {val : α → Value} (hC : ∀ args w, (callFunc f args).run prog w = .ok (.enter f args) w) (hx : xs.map (evE n ρ) = args) (con : ConM f args pb tb L cap X m (resV val)) (H : (m >>= k) ts = some r)
 (hs : Sels Γ (PO pb tb L cap ts :: TB tb L :: X) F) (hp : Pan Q ρ ds (RM pb tb L cap r Res0 F0)) (hd : ds = ds) (hF : Ent (TB tb L :: (X ++ F)) (TB tb L :: F0))
 (hok : ∀ x ts', m ts = some (.ok (x, ts')) → k x ts' = some r → WL prog n ops rest Q (upd ρ t (val x)) ds (PO pb tb L cap ts' :: TB tb L :: (X ++ F))) :
 WL prog n ops (⟨some t, .call ⟨.value (.func f), xs.toArray, ats⟩, ty, pos, af, none⟩ :: rest) Q ρ ds Γ := by
 rcases M.bind_cases H with ⟨a, hm, rfl⟩ | ⟨x, ts', hm, hk⟩
 · refine WL_call (args := args.toArray) (R := RM pb tb L cap (.error a) (resV val) (X ++ F)) hC (args_map hx) (fun w s => con ts _ hm F w (s.mono hs.ent)) ?_ ?_ (fun _ h => h)
   · rintro v w ⟨x, ts', h, _⟩; cases h
   rintro c w ⟨a', h, rfl, s⟩
   cases h
   exact hp _ _ ⟨a, rfl, rfl, s.mono hF⟩
 refine WL_call (args := args.toArray) (R := RM pb tb L cap (.ok (x, ts')) (resV val) (X ++ F)) hC (args_map hx) (fun w s => con ts _ hm F w (s.mono hs.ent)) ?_ ?_ (fun _ h => h)
 · rintro v w ⟨x', ts'', h, s⟩
   cases h
   have : WL prog n ops rest Q (updO ρ (some t) v) ds (resV val x v :: PO pb tb L cap ts' :: TB tb L :: (X ++ F)) := WL.pure fun hv => by subst hv; exact hok x ts' hm hk
   exact this w s
 rintro c w ⟨a', h, _⟩; cases h
end
theorem head_ok {L : List Tk} {ts ts' : List Tk} {t : Tk} (hp : ∃ i l s, POK L i l s ts) (hm : nowM ts = some (.ok (t, ts'))) : okTk t ∧ ts' = ts ∧ ∃ rest, ts = t :: rest := by
 obtain ⟨i, l, s, ⟨hL1, hL2, hL3⟩, hi, ⟨t0, ht, hts⟩, hs⟩ := hp
 subst hts
 have h1 : some (Except.ok ((bif s then l else t0), (bif s then l else t0) :: L.drop (i + 1))) = some (.ok (t, ts')) := hm
 injection h1 with h1; injection h1 with h1; injection h1 with h1 h2
 subst h1 h2
 refine ⟨?_, rfl, _, rfl⟩
 cases s with
 | true => exact (hs rfl).2.1
 | false => exact hL1 t0 (List.mem_of_getElem? ht)
theorem turn_bound (t : Tk) : -1 ≤ turnT t ∧ turnT t ≤ 1 := by
 unfold turnT
 cases t.kind == 6 <;> cases t.kind == 8 <;> cases t.kind == 9 <;> simp only [cond_true, cond_false] <;> try omega
 cases (t.text == [40] || t.text == [91] || t.text == [123]) <;> cases (t.text == [41] || t.text == [93] || t.text == [125]) <;> simp only [cond_true, cond_false] <;> omega
theorem turn_zero {t : Tk} (h9 : t.kind = 9) (ht : ∀ c, t.text = [c] → c ∉ ([40, 41, 91, 93, 123, 125] : List UInt8)) : turnT t = 0 := by
 have h6 : (t.kind == 6) = false := by rw [h9]; rfl
 have h8 : (t.kind == 8) = false := by rw [h9]; rfl
 have hb : ∀ c : UInt8, c ∈ ([40, 41, 91, 93, 123, 125] : List UInt8) → (t.text == [c]) = false := fun c hc => by
  rw [Bool.eq_false_iff]; intro h
  exact ht c (by simpa using h) hc
 unfold turnT
 rw [h6, h8, h9, hb 40 (by decide), hb 41 (by decide), hb 91 (by decide), hb 93 (by decide), hb 123 (by decide), hb 125 (by decide)]
 rfl
theorem split_some {t u : Tk} (h : splitT t = some u) : t.kind = 9 ∧ ∃ d l, t.text = 62 :: d :: l ∧ u = { t with text := d :: l, pos := t.pos + 1 } := by
 obtain ⟨k, x, p, e⟩ := t
 rcases x with _ | ⟨c, _ | ⟨d, l⟩⟩
 · cases h
 · cases h
 have h : (bif k == 9 && c == 62 then some (⟨k, d :: l, p + 1, e⟩ : Tk) else none) = some u := h
 cases hb : (k == 9 && c == 62) with
 | false => rw [hb] at h; cases h
 | true =>
  rw [hb] at h
  rw [Bool.and_eq_true] at hb
  have hk : k = 9 := by simpa using hb.1
  have hc : c = 62 := by simpa using hb.2
  subst hk hc
  exact ⟨rfl, d, l, rfl, (Option.some.inj h).symm⟩
theorem pok_split {L : List Tk} {i : Nat} {l t u : Tk} {s : Bool} {rest : List Tk} (hp : POK L i l s (t :: rest)) (hsp : splitT t = some u) : POK L i u true (u :: rest) := by
 obtain ⟨⟨hL1, hL2, hL3⟩, hi, ⟨t0, ht, hts⟩, hs⟩ := hp
 injection hts with h1 h2
 subst h2
 obtain ⟨h9, d, tl, htx, rfl⟩ := split_some hsp
 have hokt : okTk t := by
  rw [h1]
  cases s with
  | true => exact (hs rfl).2.1
  | false => exact hL1 t0 (List.mem_of_getElem? ht)
 have htt : turnT t = turnT t0 := by
  cases s with
  | true => rw [h1]; exact (hs rfl).2.2 t0 ht
  | false => rw [h1]; rfl
 have hbr := hokt.1 h9
 rw [htx] at hbr
 have hz : turnT t = 0 := turn_zero h9 fun c hc => by rw [htx] at hc; cases hc
 have hlen := hokt.2.2.2
 have hpos := hokt.2.2.1
 rw [htx] at hlen hpos
 simp only [List.length_cons] at hlen hpos
 refine ⟨⟨hL1, hL2, hL3⟩, hi, ⟨t0, ht, rfl⟩, fun _ => ⟨?_, ⟨?_, ?_, ?_, ?_⟩, ?_⟩⟩
 · cases s with
   | true => exact (hs rfl).1
   | false =>
    rcases Nat.lt_or_ge (i + 1) L.length with h | h
    · exact h
    exfalso
    obtain ⟨z, hz1, hz2⟩ := hL3
    rw [List.getLast?_eq_getElem?, show L.length - 1 = i by omega, ht] at hz1
    have : t0 = z := Option.some.inj hz1
    have h1 : t = t0 := h1
    rw [h1, this, hz2] at h9; cases h9
 · intro _ c hc
   exact hbr c (by simpa using List.mem_of_mem_drop hc)
 · intro h; have h : t.kind = 3 := h; rw [h9] at h; cases h
 · show 0 ≤ t.pos + 1 ∧ t.pos + 1 + ((d :: tl).length : Nat) ≤ 1099511627776
   simp only [List.length_cons]; omega
 · show (d :: tl).length ≤ 1048576
   simp only [List.length_cons]; omega
 intro t1 ht1
 rw [ht] at ht1
 obtain rfl : t0 = t1 := Option.some.inj ht1
 rw [← htt, hz]
 exact turn_zero h9 fun c hc => by
  have hc : d :: tl = [c] := hc
  injection hc with hc1 hc2
  subst hc1
  exact hbr d (by simp)
section
variable {P : Program} {n : Nat} {Q : Post} {ρ : Env} {Γ Γ' F F0 : List HP} {fn : Func} {R : Ending → World → Prop} {a t u : Tmp} {T : TypeId} {b m : Nat} {E : TypeId} {l : List Value} {v : Value}
theorem At_retCV (hres : fn.results = #[.cell a T, .tmp t]) (hA : ∀ w, (isAgg T).run P w = .ok true w) (hS : ∀ w, (sizeOf T).run P w = .ok m w) (hx : evE fn.ntmps ρ (.tmp a) = .pointer (some ⟨b, 0, none⟩)) (hs : Sel Γ (Cl b E l) Γ') (hm : l.length = m)
 (hR : ∀ w, Sat Γ w → R (.returned (.tuple #[.agg l.toArray, evE fn.ntmps ρ (.tmp t)])) w) : At .ret (bodyQ P fn R) ρ [] Γ :=
 At_ret rfl (fun w s => by
  have := run_cell (P := P) (w := w) (tmps := (actOf fn.ntmps ρ []).tmps) (a := a) hA hS (by rw [actOf_getD]; exact hx) (Sat.blk (s.mono hs.ent)) hm
  have hx' : (actOf fn.ntmps ρ []).tmps.getD a undef = .pointer (some ⟨b, 0, none⟩) := by rw [actOf_getD]; exact hx
  have ht' : (actOf fn.ntmps ρ []).tmps.getD t undef = evE fn.ntmps ρ (.tmp t) := by rw [actOf_getD]; rfl
  rw [hx'] at this
  rw [Array.getD_eq_getD_getElem?] at hx' ht'
  simp only [results, hres]
  simp [asAddr] at this
  simp [hx', ht', asAddr, this]) hR
end
end Go.Proofs

namespace Go.Proofs
open Go.Px Tryz
attribute [local semireducible] WL WC At WD
theorem bin_mul {T : TypeId} {a b : Int} (h0 : -9223372036854775808 ≤ a * b) (h1 : a * b ≤ 9223372036854775807) : binOp .mul T (.int .i64 a) (.int .i64 b) = pure (.int .i64 (a * b)) := by
 rw [binOp_mul]; unfold Op.intArith; simp only; rw [IntWalk.i64_in _ ⟨h0, h1⟩]
theorem bin_sub8 {T : TypeId} {a b : Int} (h0 : 0 ≤ a - b) (h1 : a - b ≤ 255) : binOp .sub T (.int .u8 a) (.int .u8 b) = pure (.int .u8 (a - b)) := by
 rw [binOp_sub]; unfold Op.intArith; simp only; rw [IntWalk.u8_in _ ⟨h0, h1⟩]
section
variable {n : Nat} {Q : Post} {ρ : Env} {ds : List Deferred} {Γ Γ' F F0 X : List HP} {ops : Array Oper} {rest : List Oper} {t : Tmp} {d : Option Tmp} {ty : TypeId} {pos : String} {af : Array Edge} {gd : Option (Nat × Bool)}
theorem rd_idx1 {x y : Operand} {T E : TypeId} {b j len cap : Nat} {i : Int} {k : IntKind} (hU : ∀ w, (underlying T).run prog w = .ok (.slice E) w) (hS : ∀ w, (sizeOf E).run prog w = .ok 1 w)
 (hx : evE n ρ x = .slice (some ⟨b, 0, none⟩) len cap) (hy : evE n ρ y = .int k i) (hi : i = (j : Int)) (h1 : j < len) :
 Rd prog n ρ ⟨d, .indexAddr T x y, ty, pos, af, gd⟩ Γ (.pointer (some ⟨b, j, none⟩)) := by
 subst hi
 have := rd_indexAddr (P := prog) (d := d) (ty := ty) (pos := pos) (af := af) (gd := gd) (Γ := Γ) hU hS hx hy (by omega) (by omega)
 simpa using this
theorem rd_conv8 {x : Operand} {S T : TypeId} {a : Int} (hS : ∀ w, (underlying S).run prog w = .ok (.int .u8) w) (hT : ∀ w, (underlying T).run prog w = .ok (.int .i64) w) (hx : evE n ρ x = .int .u8 a) (h0 : 0 ≤ a) (h1 : a ≤ 255) :
 Rd prog n ρ ⟨d, .convert S T x, ty, pos, af, gd⟩ Γ (.int .i64 a) := fun w _ => by
 simp only [execOp, hx, convert, Sem.run_bind, hS, hT, Result.andThen_ok, Conv.intToInt]
 rw [IntWalk.i64_in a ⟨by omega, by omega⟩]
 rfl
theorem ef_toBytes {x : Operand} {s : Bs} (hx : evE n ρ x = .string (bs s)) (h1 : prog.underlying 9 = some .string) (h2 : prog.underlying 22 = some (.slice 5)) (h3 : prog.underlying 5 = some (.int .u8)) :
 Ef prog n ρ ⟨d, .convert 9 22 x, ty, pos, af, gd⟩ Γ (fun b : Nat × Nat => .slice (some ⟨b.1, 0, none⟩) s.length b.2) (fun b => Blk b.1 (.cells (bytesRow (bs s) b.2) 5 ((bytesRow (bs s) b.2).size, (bytesRow (bs s) b.2).size + 1)) :: Γ) := fun w hs => by
 have := run_bytes_of_string w 9 22 5 (bs s) h1 h2 h3
 refine ⟨(w.heap.size, grownCap w (bs s).size 0 5), w.drew.alloc (.cells (bytesRow (bs s) (grownCap w (bs s).size 0 5)) 5 ((bytesRow (bs s) (grownCap w (bs s).size 0 5)).size, (bytesRow (bs s) (grownCap w (bs s).size 0 5)).size + 1)), ?_, Sat.push hs (heap_drew_alloc _ _)⟩
 simp only [execOp, hx, Sem.run_bind, this, Result.andThen_ok, Sem.run_pure]
 rfl
section
variable {x : Operand} {T U : TypeId}
theorem eqIn_nn {m : Array (String × TypeId)} (hU : ∀ w, (underlying T).run prog w = .ok (.interface m) w) (e : Nat) (w : World) : (Op.equalIn (e + 1) T .nilIface .nilIface).run prog w = .ok true w := by simp [Op.equalIn, hU]
theorem eqIn_in {m : Array (String × TypeId)} {D : TypeId} {v : Value} (hU : ∀ w, (underlying T).run prog w = .ok (.interface m) w) (e : Nat) (w : World) : (Op.equalIn (e + 1) T (.iface D v) .nilIface).run prog w = .ok false w := by simp [Op.equalIn, hU]
theorem rd_eqPN {a : Option Addr} (hU : prog.underlying T = some (.pointer (prog.pointee T))) (hx : evE n ρ x = .pointer a) :
 Rd prog n ρ ⟨d, .binOp .eql T x (.const (.pointer none)) U, ty, pos, af, gd⟩ Γ (.bool a.isNone) := fun w _ => by
 have h1 := run_equal_pointer_nil (P := prog) w T a hU
 have hG : eqGuard .eql T x (.const (.pointer none)) (.pointer a) (.pointer none) = pure () := by cases a <;> rfl
 have hy : evE n ρ (.const (.pointer none)) = .pointer none := rfl
 simp only [execOp, hx, hy, hG, Sem.run_bind, Sem.run_pure, Result.andThen_ok]
 cases a <;> simp [binOp, h1]
theorem rd_eqSN {a : Option Addr} {l c : Nat} {E : TypeId} (hU : prog.underlying T = some (.slice E)) (hx : evE n ρ x = .slice a l c) :
 Rd prog n ρ ⟨d, .binOp .eql T x (.const (.slice none 0 0)) U, ty, pos, af, gd⟩ Γ (.bool a.isNone) := fun w _ => by
 have h1 := run_equal_slice_nil (P := prog) w T E a l c hU
 have hG : eqGuard .eql T x (.const (.slice none 0 0)) (.slice a l c) (.slice none 0 0) = pure () := rfl
 have hy : evE n ρ (.const (.slice none 0 0)) = .slice none 0 0 := rfl
 simp only [execOp, hx, hy, hG, Sem.run_bind, Sem.run_pure, Result.andThen_ok]
 simp [binOp, h1]
theorem rd_neNN {m : Array (String × TypeId)} (hU : ∀ w, (underlying T).run prog w = .ok (.interface m) w) (hx : evE n ρ x = .nilIface) :
 Rd prog n ρ ⟨d, .binOp .neq T x (.const .nilIface) U, ty, pos, af, gd⟩ Γ (.bool false) := fun w _ => by
 have hG : eqGuard .neq T x (.const .nilIface) .nilIface .nilIface = pure () := by cases x <;> rfl
 have hy : evE n ρ (.const .nilIface) = .nilIface := rfl
 simp only [execOp, hx, hy, hG, Sem.run_bind, Sem.run_pure, Result.andThen_ok]
 have he : (Op.equal T (.nilIface) (.nilIface)).run prog w = .ok true w := by
  exact eqIn_nn hU 9999 w
 simp [binOp, he]
theorem rd_eqIN {m : Array (String × TypeId)} {v : Value} {D : TypeId} (hU : ∀ w, (underlying T).run prog w = .ok (.interface m) w) (hx : evE n ρ x = .iface D v) :
 Rd prog n ρ ⟨d, .binOp .eql T x (.const .nilIface) U, ty, pos, af, gd⟩ Γ (.bool false) := fun w _ => by
 have hG : eqGuard .eql T x (.const .nilIface) (.iface D v) .nilIface = pure () := rfl
 have hy : evE n ρ (.const .nilIface) = .nilIface := rfl
 simp only [execOp, hx, hy, hG, Sem.run_bind, Sem.run_pure, Result.andThen_ok]
 have he : (Op.equal T (.iface D v) (.nilIface)).run prog w = .ok false w := by
  exact eqIn_in hU 9999 w
 simp [binOp, he]
theorem rd_eqNN {m : Array (String × TypeId)} (hU : ∀ w, (underlying T).run prog w = .ok (.interface m) w) (hx : evE n ρ x = .nilIface) :
 Rd prog n ρ ⟨d, .binOp .eql T x (.const .nilIface) U, ty, pos, af, gd⟩ Γ (.bool true) := fun w _ => by
 have hG : eqGuard .eql T x (.const .nilIface) .nilIface .nilIface = pure () := by cases x <;> rfl
 have hy : evE n ρ (.const .nilIface) = .nilIface := rfl
 simp only [execOp, hx, hy, hG, Sem.run_bind, Sem.run_pure, Result.andThen_ok]
 have he : (Op.equal T (.nilIface) (.nilIface)).run prog w = .ok true w := by
  exact eqIn_nn hU 9999 w
 simp [binOp, he]
end
theorem bytesRow_bs {s : Bs} {cap j : Nat} {c : UInt8} (h : s[j]? = some c) : (bytesRow (bs s) cap)[j]? = some (.int .u8 ((c.toNat : Nat) : Int)) := by
 obtain ⟨h1, h2⟩ := List.getElem?_eq_some_iff.1 h
 have := bytesRow_at (bs s) cap j (by simpa [bs] using h1)
 rw [this]
 subst h2
 simp [bs]
theorem Tryz.ptr118 : prog.underlying 118 = some (.pointer (prog.pointee 118)) := by kernel_rfl
theorem rd_nePN {x : Operand} {T U : TypeId} {a : Option Addr} (hU : prog.underlying T = some (.pointer (prog.pointee T))) (hx : evE n ρ x = .pointer a) :
 Rd prog n ρ ⟨d, .binOp .neq T x (.const (.pointer none)) U, ty, pos, af, gd⟩ Γ (.bool a.isSome) := fun w _ => by
 have h1 := run_equal_pointer_nil (P := prog) w T a hU
 have hG : eqGuard .neq T x (.const (.pointer none)) (.pointer a) (.pointer none) = pure () := by cases a <;> rfl
 have hy : evE n ρ (.const (.pointer none)) = .pointer none := rfl
 simp only [execOp, hx, hy, hG, Sem.run_bind, Sem.run_pure, Result.andThen_ok]
 cases a <;> simp [binOp, h1]
def resO : Option PT → Value → HP
 | none, v => Pr (v = .pointer none)
 | some x, v => resN x v
section
variable {pb tb cap : Nat} {L : List Tk} {β : Type} {Res0 : β → Value → HP} {ts : List Tk} {r : Except Int (β × List Tk)} {f : FuncId} {xs : List Operand} {ats : Array TypeId} {args : List Value}
theorem WL_callO {m : M (Option PT)} {k : Option PT → M β} (hC : ∀ args w, (callFunc f args).run prog w = .ok (.enter f args) w) (hx : xs.map (evE n ρ) = args) (con : ConM f args pb tb L cap X m resO) (H : (m >>= k) ts = some r)
 (hs : Sels Γ (PO pb tb L cap ts :: TB tb L :: X) F) (hp : Pan Q ρ ds (RM pb tb L cap r Res0 F0)) (hd : ds = ds) (hF : Ent (TB tb L :: (X ++ F)) (TB tb L :: F0))
 (hnone : ∀ ts', k none ts' = some r → WL prog n ops rest Q (upd ρ t (.pointer none)) ds (PO pb tb L cap ts' :: TB tb L :: (X ++ F)))
 (hsome : ∀ x ts' q, k (some x) ts' = some r → WL prog n ops rest Q (upd ρ t (ptr q)) ds (TN x q :: PO pb tb L cap ts' :: TB tb L :: (X ++ F))) :
 WL prog n ops (⟨some t, .call ⟨.value (.func f), xs.toArray, ats⟩, ty, pos, af, none⟩ :: rest) Q ρ ds Γ :=
 WL_callM hC hx con H hs hp hd hF fun x ts' v hk => by
  cases x with
  | none => exact WL.pure fun hv => by subst hv; exact hnone ts' hk
  | some x => exact WL.ex fun q => WL.ent (ent_all [Pr (v = ptr q), TN x q] _) (WL.pure fun hv => by subst hv; exact hsome x ts' q hk)
theorem fin_none {r : Except Int (Option PT × List Tk)} {v : Value} (H : (pure none : M (Option PT)) ts = some r) (hv : v = .pointer none) (hs : Sels Γ [PO pb tb L cap ts, TB tb L] F) (hF : Ent F F0) :
 ∀ w, Sat Γ w → RM pb tb L cap r resO F0 (.returned v) w := fun w s =>
 ⟨none, ts, M.of_pure H, s.mono (hs.ent.trans ((Ent.tail (Ent.tail hF)).trans (ent_pure hv _)))⟩
theorem fin_some {x : PT} {q : Nat} {r : Except Int (Option PT × List Tk)} (H : (pure (some x) : M (Option PT)) ts = some r) (hs : Sels Γ [TN x q, PO pb tb L cap ts, TB tb L] F) (hF : Ent F F0) :
 ∀ w, Sat Γ w → RM pb tb L cap r resO F0 (.returned (ptr q)) w := fun w s =>
 ⟨some x, ts, M.of_pure H, s.mono (hs.ent.trans (resN_of.trans (Ent.tail (Ent.tail (Ent.tail hF)))))⟩
def resB : Bs → Value → HP := fun x v => Pr (v = stVal x ∧ x.length ≤ 1048576)
theorem c_nameB : ConM 184 [ptr pb] pb tb L cap [] nameM resB := fun ts r hm F w s => by
 obtain ⟨i, l, b, hpk⟩ := po_know (.zero) _ s
 have hb : ∀ x ts', r = .ok (x, ts') → x.length ≤ 1048576 := fun x ts' hr => by
  subst hr
  have hts : ∃ t rest, ts = t :: rest := by obtain ⟨_, _, ⟨t, _, h⟩, _⟩ := hpk; exact ⟨_, _, h⟩
  obtain ⟨t, rest, rfl⟩ := hts
  have hok := (head_ok ⟨i, l, b, hpk⟩ (show nowM (t :: rest) = some (.ok (t, t :: rest)) from rfl)).1
  have hm : (nowM >>= fun t => bif t.kind != 1 then failM else nextM >>= fun t => (Pure.pure t.text : M Bs)) (t :: rest) = some (.ok (x, ts')) := hm
  have hm : (bif t.kind != 1 then failM else nextM >>= fun t => (Pure.pure t.text : M Bs)) (t :: rest) = some (.ok (x, ts')) := hm
  cases hk : (t.kind != 1) with
  | true => rw [hk] at hm; cases hm
  | false =>
   rw [hk] at hm
   have hm : (nextM >>= fun t => (Pure.pure t.text : M Bs)) (t :: rest) = some (.ok (x, ts')) := hm
   cases rest with
   | nil => cases hm; exact hok.2.2.2
   | cons u l => cases hm; exact hok.2.2.2
 exact (c_name ts r hm F w s).mono fun e w' q => by
  cases e with
  | returned v =>
   obtain ⟨x, ts', hr, q⟩ := q
   have hv : v = stVal x := sep_pure q
   exact ⟨x, ts', hr, (Sat.mono q (Ent.dropHead (Ent.refl _))).mono (ent_pure ⟨hv, hb x ts' hr⟩ _)⟩
  | panicked c => exact q
  | outgrown => exact q
theorem WL_callB {k : Bs → M β} (hC : ∀ args w, (callFunc f args).run prog w = .ok (.enter f args) w) (hx : xs.map (evE n ρ) = args) (con : ConM f args pb tb L cap X nameM resB) (H : (nameM >>= k) ts = some r)
 (hs : Sels Γ (PO pb tb L cap ts :: TB tb L :: X) F) (hp : Pan Q ρ ds (RM pb tb L cap r Res0 F0)) (hd : ds = ds) (hF : Ent (TB tb L :: (X ++ F)) (TB tb L :: F0))
 (hok : ∀ x ts', x.length ≤ 1048576 → k x ts' = some r → WL prog n ops rest Q (upd ρ t (stVal x)) ds (PO pb tb L cap ts' :: TB tb L :: (X ++ F))) :
 WL prog n ops (⟨some t, .call ⟨.value (.func f), xs.toArray, ats⟩, ty, pos, af, none⟩ :: rest) Q ρ ds Γ :=
 WL_callM hC hx con H hs hp hd hF fun x ts' v hk => WL.pure fun hv => by obtain ⟨rfl, hl⟩ := hv; exact hok x ts' hl hk
theorem WL_callNm {m : M PT} {k : PT → M β} (hC : ∀ args w, (callFunc f args).run prog w = .ok (.enter f args) w) (hx : xs.map (evE n ρ) = args) (con : ConM f args pb tb L cap X m resN) (H : (m >>= k) ts = some r)
 (hs : Sels Γ (PO pb tb L cap ts :: TB tb L :: X) F) (hp : Pan Q ρ ds (RM pb tb L cap r Res0 F0)) (hd : ds = ds) (hF : Ent (TB tb L :: (X ++ F)) (TB tb L :: F0))
 (hok : ∀ x ts' q, m ts = some (.ok (x, ts')) → k x ts' = some r → WL prog n ops rest Q (upd ρ t (ptr q)) ds (TN x q :: PO pb tb L cap ts' :: TB tb L :: (X ++ F))) :
 WL prog n ops (⟨some t, .call ⟨.value (.func f), xs.toArray, ats⟩, ty, pos, af, none⟩ :: rest) Q ρ ds Γ := by
 rcases M.bind_cases H with ⟨a, hm, rfl⟩ | ⟨x, ts', hm, hk⟩
 · refine WL_call (args := args.toArray) (R := RM pb tb L cap (.error a) resN (X ++ F)) hC (args_map hx) (fun w s => con ts _ hm F w (s.mono hs.ent)) ?_ ?_ (fun _ h => h)
   · rintro v w ⟨x, ts', h, _⟩; cases h
   rintro c w ⟨a', h, rfl, s⟩
   cases h
   exact hp _ _ ⟨a, rfl, rfl, s.mono hF⟩
 refine WL_call (args := args.toArray) (R := RM pb tb L cap (.ok (x, ts')) resN (X ++ F)) hC (args_map hx) (fun w s => con ts _ hm F w (s.mono hs.ent)) ?_ ?_ (fun _ h => h)
 · rintro v w ⟨x', ts'', h, s⟩
   cases h
   have : WL prog n ops rest Q (updO ρ (some t) v) ds (resN x v :: PO pb tb L cap ts' :: TB tb L :: (X ++ F)) :=
    WL.ex fun q => WL.ent (ent_all [Pr (v = ptr q), TN x q] _) (WL.pure fun hv => by subst hv; exact hok x ts' q hm hk)
   exact this w s
 rintro c w ⟨a', h, _⟩; cases h
theorem empty_is {ts ts' : List Tk} {x : PT} (hm : emptyM ts = some (.ok (x, ts'))) : ∃ a, x = .node 2 [] 0 a [] := by
 cases ts with
 | nil => cases hm
 | cons t l => cases hm; exact ⟨t.pos, rfl⟩
theorem next_head {ts ts' : List Tk} {t x : Tk} {rest : List Tk} (h : ts = t :: rest) (hm : nextM ts = some (.ok (x, ts'))) : x = t := by
 subst h
 cases rest with
 | nil => cases hm; rfl
 | cons u l => cases hm; rfl
end
section
variable {fuel : Nat} {Lb : Array Bool} {late : List Nat} {Γ0 : List HP} {f : FuncId} {args : List Value} {o : Oper}
theorem WD_callVm {pb tb cap : Nat} {L : List Tk} {α β : Type} {m : M α} {k : α → M β} {Res0 : β → Value → HP} {ts : List Tk} {r : Except Int (β × List Tk)} {val : α → Value} (i : Nat) (hr : Region.ready .any ops Lb = [i]) (ho : ops[i]? = some o) (hd : o.dst = some t) (hg : o.guard = none)
 (hrun : ∀ w, (execOp (evE n ρ) o).run prog w = .ok (.enter f args.toArray) w) (con : ConM f args pb tb L cap X m (resV val)) (H : (m >>= k) ts = some r)
 (hs : Sels Γ (PO pb tb L cap ts :: TB tb L :: X) F) (hp : Pan Q ρ ds (RM pb tb L cap r Res0 F0)) (hds : ds = ds) (hF : Ent (TB tb L :: (X ++ F)) (TB tb L :: F0))
 (hE : Ent F Γ0)
 (hok : ∀ x ts', m ts = some (.ok (x, ts')) → k x ts' = some r → WD prog n ops late Γ0 fuel (Lb.setIfInBounds i true) Q (upd ρ t (val x)) ds (PO pb tb L cap ts' :: TB tb L :: (X ++ F))) :
 WD prog n ops late Γ0 (fuel + 1) Lb Q ρ ds Γ := by
 have hX : Ent (X ++ F) F := by
  have : ∀ X : List HP, Ent (X ++ F) F := fun X => by
   induction X with
   | nil => exact Ent.refl _
   | cons A X ih => exact Ent.dropHead ih
  exact this X
 rcases M.bind_cases H with ⟨a, hm, rfl⟩ | ⟨x, ts', hm, hk⟩
 · refine WD_call i (R := RM pb tb L cap (.error a) (resV val) (X ++ F)) hr ho hg hrun (fun w s => con ts _ hm F w (s.mono hs.ent)) ?_ ?_ ?_ (fun _ h => h)
   · rintro v w ⟨x, ts', h, _⟩; cases h
   · rintro v w ⟨x, ts', h, _⟩; cases h
   rintro c w ⟨a', h, rfl, s⟩
   cases h
   exact hp _ _ ⟨a, rfl, rfl, s.mono hF⟩
 refine WD_call i (R := RM pb tb L cap (.ok (x, ts')) (resV val) (X ++ F)) hr ho hg hrun (fun w s => con ts _ hm F w (s.mono hs.ent)) ?_ ?_ ?_ (fun _ h => h)
 · rintro v w ⟨x', ts'', h, s⟩ _
   cases h
   exact s.mono (Ent.dropHead (Ent.dropHead (Ent.dropHead (hX.trans hE))))
 · rintro v w ⟨x', ts'', h, s⟩
   cases h
   rw [hd]
   have : WD prog n ops late Γ0 fuel (Lb.setIfInBounds i true) Q (updO ρ (some t) v) ds (resV val x v :: PO pb tb L cap ts' :: TB tb L :: (X ++ F)) := WD.pure fun hv => by subst hv; exact hok x ts' hm hk
   exact this w s
 rintro c w ⟨a', h, _⟩; cases h
theorem WD_callP {Δ0 Δ : List HP} {v : Value} (i : Nat) (hr : Region.ready .any ops Lb = [i]) (ho : ops[i]? = some o) (hd : o.dst = some t) (hg : o.guard = none)
 (hrun : ∀ w, (execOp (evE n ρ) o).run prog w = .ok (.enter f args.toArray) w) (con : ∀ F w, Sat (Δ0 ++ F) w → Calls prog f args.toArray w fun e w' => e = .returned v ∧ Sat (Δ ++ F) w')
 (hs : Sels Γ Δ0 F) (hE : Ent (Δ ++ F) Γ0) (hok : WD prog n ops late Γ0 fuel (Lb.setIfInBounds i true) Q (upd ρ t v) ds (Δ ++ F)) :
 WD prog n ops late Γ0 (fuel + 1) Lb Q ρ ds Γ :=
 WD_call i hr ho hg hrun (fun w s => con F w (s.mono hs.ent))
  (fun v' w h _ => h.2.mono hE) (fun v' w h => by obtain ⟨h, s⟩ := h; cases h; rw [hd]; exact hok w s)
  (fun c w h => by cases h.1) (fun w h => by cases h.1)
end
end
end Go.Proofs
