/- Own lemmas for the proof. -/
import Derived.Test.YtldagpopfebbbaaGreatDoorZD
set_option linter.unusedVariables false
set_option linter.unusedSimpArgs false
namespace Go.Proofs
open Go.Px Tryz
section
variable {pb tb cap K : Nat} {L : List Tk} {g : NT → M PT}
theorem c_params1 (hg : CG g) (a b : Nat) (m : Bool) : ConM 222 [ptr a, ptr b] pb tb L cap [Cl a 113 [ptr pb], Cl b 4 [.bool m]] (paramM g m) resN := by
 intro ts r H F
 show ∀ w, Sat (PO pb tb L cap ts :: TB tb L :: Cl a 113 [ptr pb] :: Cl b 4 [.bool m] :: F) w → _
 replace H := bpureH H
 unfold paramM at H
 try simp only [nr] at H
 refine calls_of_WC (fn := f222) func222 rfl rfl (Sr (Av (.pointer none) (Ny (Lo a 0 (ptr pb) isAgg113 Z2 rfl (Cv call85 (c_now) H (K2 Z0 Z0) (.tail (E2 Z0 Z0)) fun t1 ts2 H => WL_rd (rd_field (u := .agg #[Iv t1.kind, Tx t1.text, Iv t1.pos, Iv t1.en]) (v := Iv t1.pos) rfl (fv47_2 _ _ _ _ )) (Av (Iv t1.pos) (Av (Iv 0) (Nz (Lo b 0 (.bool m) isAgg4 Z3 rfl (Mv (.bool m) ?_))))))))))
 cases hb4 : (m)
 · try simp only [nr, hb4] at H
   refine Pa false 10 (Pa false 10 (Pk false (Nt (Fz (Lo b 0 (.bool false) isAgg4 Z3 rfl (Mv (.bool false) (Pa false 17 (Pa false 17 (Pk false (Nt (Fx (Lo a 0 (ptr pb) isAgg113 Z2 rfl (Cv call184 (c_name) H (K2 Z0 Z0) (.tail (E2 Z0 Z0)) fun s5 ts6 H => Av (Tx s5) (Nz (Lo a 0 (ptr pb) isAgg113 Z2 rfl (Cv call134 (c_take [63]) H (K2 Z0 Z0) (.tail (E2 Z0 Z0)) fun b8 ts9 H => Nt ?_))))))))))))))))
   cases hb11 : (b8)
   · try simp only [nr, hb11] at H
     refine Fx (Mv (Tx s5) (Mv (Iv 0) (Mv (Iv t1.pos) (Lo a 0 (ptr pb) isAgg113 Z2 rfl (Cn call214 (hg (.optional) _ _ _ _) H (K2 Z0 Z0) (.tail (E2 Z0 Z0)) fun x12 ts13 q14 H => Bl 118 [ptr q14] (bs120_1 _ rfl ) fun b15 => WL_made (k := 66) (s := s5) (nu := 0) (a := t1.pos) rfl rfl (ent_kd1 (K2 Z0 Z0)) fun q16 => Av (ptr q16) (Nr ?_))))))
     try simp only [nr] at H
     exact At_ret1 results222 (fin_node H (K3 Z0 Z0 Z0) (E2 Z0 Z0))
   try simp only [nr, hb11] at H
   refine Tr (Mv (Iv 0) (Bo (Iv 0) (Iv 1) (Iv 1) eqg_int rfl (Av (Iv 1) (Ny (Mv (Tx s5) (Mv (Iv 1) (Mv (Iv t1.pos) (Lo a 0 (ptr pb) isAgg113 Z2 rfl (Cn call214 (hg (.optional) _ _ _ _) H (K2 Z0 Z0) (.tail (E2 Z0 Z0)) fun x17 ts18 q19 H => Bl 118 [ptr q19] (bs120_1 _ rfl ) fun b20 => WL_made (k := 66) (s := s5) (nu := 1) (a := t1.pos) rfl rfl (ent_kd1 (K2 Z0 Z0)) fun q21 => Av (ptr q21) (Nr ?_))))))))))
   try simp only [nr] at H
   exact At_ret1 results222 (fin_node H (K3 Z0 Z0 Z0) (E2 Z0 Z0))
 try simp only [nr, hb4] at H
 refine Ta true 10 (Lo a 0 (ptr pb) isAgg113 Z2 rfl (Ta true 10 (Cv call134 (c_take [112, 117, 98, 108, 105, 99]) H (K2 Z0 Z0) (.tail (E2 Z0 Z0)) fun b22 ts23 H => Pk true (Nt ?_))))
 cases hb25 : (b22)
 · try simp only [nr, hb25] at H
   refine Fz (Lo b 0 (.bool true) isAgg4 Z3 rfl (Mv (.bool true) (Ta true 17 (Lo a 0 (ptr pb) isAgg113 Z2 rfl (Ta true 17 (Cv call134 (c_take [114, 101, 97, 100, 111, 110, 108, 121]) H (K2 Z0 Z0) (.tail (E2 Z0 Z0)) fun b26 ts27 H => Pk true (Nt ?_)))))))
   cases hb29 : (b26)
   · try simp only [nr, hb29] at H
     refine Fx (Lo a 0 (ptr pb) isAgg113 Z2 rfl (Cv call184 (c_name) H (K2 Z0 Z0) (.tail (E2 Z0 Z0)) fun s30 ts31 H => Av (Tx s30) (Nz (Lo a 0 (ptr pb) isAgg113 Z2 rfl (Cv call134 (c_take [63]) H (K2 Z0 Z0) (.tail (E2 Z0 Z0)) fun b33 ts34 H => Nt ?_)))))
     cases hb36 : (b33)
     · try simp only [nr, hb36] at H
       refine Fx (Mv (Tx s30) (Mv (Iv 0) (Mv (Iv t1.pos) (Lo a 0 (ptr pb) isAgg113 Z2 rfl (Cn call214 (hg (.optional) _ _ _ _) H (K2 Z0 Z0) (.tail (E2 Z0 Z0)) fun x37 ts38 q39 H => Bl 118 [ptr q39] (bs120_1 _ rfl ) fun b40 => WL_made (k := 66) (s := s30) (nu := 0) (a := t1.pos) rfl rfl (ent_kd1 (K2 Z0 Z0)) fun q41 => Av (ptr q41) (Nr ?_))))))
       try simp only [nr] at H
       exact At_ret1 results222 (fin_node H (K3 Z0 Z0 Z0) (E2 Z0 Z0))
     try simp only [nr, hb36] at H
     refine Tr (Mv (Iv 0) (Bo (Iv 0) (Iv 1) (Iv 1) eqg_int rfl (Av (Iv 1) (Ny (Mv (Tx s30) (Mv (Iv 1) (Mv (Iv t1.pos) (Lo a 0 (ptr pb) isAgg113 Z2 rfl (Cn call214 (hg (.optional) _ _ _ _) H (K2 Z0 Z0) (.tail (E2 Z0 Z0)) fun x42 ts43 q44 H => Bl 118 [ptr q44] (bs120_1 _ rfl ) fun b45 => WL_made (k := 66) (s := s30) (nu := 1) (a := t1.pos) rfl rfl (ent_kd1 (K2 Z0 Z0)) fun q46 => Av (ptr q46) (Nr ?_))))))))))
     try simp only [nr] at H
     exact At_ret1 results222 (fin_node H (K3 Z0 Z0 Z0) (E2 Z0 Z0))
   try simp only [nr, hb29] at H
   refine Tr (Mv (Iv 0) (Bo (Iv 0) (Iv 4) (Iv 4) eqg_int rfl (Av (Iv 4) (Ny (Lo a 0 (ptr pb) isAgg113 Z2 rfl (Cv call184 (c_name) H (K2 Z0 Z0) (.tail (E2 Z0 Z0)) fun s47 ts48 H => Av (Tx s47) (Nz (Lo a 0 (ptr pb) isAgg113 Z2 rfl (Cv call134 (c_take [63]) H (K2 Z0 Z0) (.tail (E2 Z0 Z0)) fun b50 ts51 H => Nt ?_)))))))))
   cases hb53 : (b50)
   · try simp only [nr, hb53] at H
     refine Fx (Mv (Tx s47) (Mv (Iv 4) (Mv (Iv t1.pos) (Lo a 0 (ptr pb) isAgg113 Z2 rfl (Cn call214 (hg (.optional) _ _ _ _) H (K2 Z0 Z0) (.tail (E2 Z0 Z0)) fun x54 ts55 q56 H => Bl 118 [ptr q56] (bs120_1 _ rfl ) fun b57 => WL_made (k := 66) (s := s47) (nu := 4) (a := t1.pos) rfl rfl (ent_kd1 (K2 Z0 Z0)) fun q58 => Av (ptr q58) (Nr ?_))))))
     try simp only [nr] at H
     exact At_ret1 results222 (fin_node H (K3 Z0 Z0 Z0) (E2 Z0 Z0))
   try simp only [nr, hb53] at H
   refine Tr (Mv (Iv 4) (Bo (Iv 4) (Iv 1) (Iv 5) eqg_int rfl (Av (Iv 5) (Ny (Mv (Tx s47) (Mv (Iv 5) (Mv (Iv t1.pos) (Lo a 0 (ptr pb) isAgg113 Z2 rfl (Cn call214 (hg (.optional) _ _ _ _) H (K2 Z0 Z0) (.tail (E2 Z0 Z0)) fun x59 ts60 q61 H => Bl 118 [ptr q61] (bs120_1 _ rfl ) fun b62 => WL_made (k := 66) (s := s47) (nu := 5) (a := t1.pos) rfl rfl (ent_kd1 (K2 Z0 Z0)) fun q63 => Av (ptr q63) (Nr ?_))))))))))
   try simp only [nr] at H
   exact At_ret1 results222 (fin_node H (K3 Z0 Z0 Z0) (E2 Z0 Z0))
 try simp only [nr, hb25] at H
 refine Tr (Mv (Iv 0) (Bo (Iv 0) (Iv 2) (Iv 2) eqg_int rfl (Av (Iv 2) (Nz (Lo b 0 (.bool true) isAgg4 Z3 rfl (Mv (.bool true) (Ta true 17 (Lo a 0 (ptr pb) isAgg113 Z2 rfl (Ta true 17 (Cv call134 (c_take [114, 101, 97, 100, 111, 110, 108, 121]) H (K2 Z0 Z0) (.tail (E2 Z0 Z0)) fun b64 ts65 H => Pk true (Nt ?_)))))))))))
 cases hb67 : (b64)
 · try simp only [nr, hb67] at H
   refine Fx (Lo a 0 (ptr pb) isAgg113 Z2 rfl (Cv call184 (c_name) H (K2 Z0 Z0) (.tail (E2 Z0 Z0)) fun s68 ts69 H => Av (Tx s68) (Nz (Lo a 0 (ptr pb) isAgg113 Z2 rfl (Cv call134 (c_take [63]) H (K2 Z0 Z0) (.tail (E2 Z0 Z0)) fun b71 ts72 H => Nt ?_)))))
   cases hb74 : (b71)
   · try simp only [nr, hb74] at H
     refine Fx (Mv (Tx s68) (Mv (Iv 2) (Mv (Iv t1.pos) (Lo a 0 (ptr pb) isAgg113 Z2 rfl (Cn call214 (hg (.optional) _ _ _ _) H (K2 Z0 Z0) (.tail (E2 Z0 Z0)) fun x75 ts76 q77 H => Bl 118 [ptr q77] (bs120_1 _ rfl ) fun b78 => WL_made (k := 66) (s := s68) (nu := 2) (a := t1.pos) rfl rfl (ent_kd1 (K2 Z0 Z0)) fun q79 => Av (ptr q79) (Nr ?_))))))
     try simp only [nr] at H
     exact At_ret1 results222 (fin_node H (K3 Z0 Z0 Z0) (E2 Z0 Z0))
   try simp only [nr, hb74] at H
   refine Tr (Mv (Iv 2) (Bo (Iv 2) (Iv 1) (Iv 3) eqg_int rfl (Av (Iv 3) (Ny (Mv (Tx s68) (Mv (Iv 3) (Mv (Iv t1.pos) (Lo a 0 (ptr pb) isAgg113 Z2 rfl (Cn call214 (hg (.optional) _ _ _ _) H (K2 Z0 Z0) (.tail (E2 Z0 Z0)) fun x80 ts81 q82 H => Bl 118 [ptr q82] (bs120_1 _ rfl ) fun b83 => WL_made (k := 66) (s := s68) (nu := 3) (a := t1.pos) rfl rfl (ent_kd1 (K2 Z0 Z0)) fun q84 => Av (ptr q84) (Nr ?_))))))))))
   try simp only [nr] at H
   exact At_ret1 results222 (fin_node H (K3 Z0 Z0 Z0) (E2 Z0 Z0))
 try simp only [nr, hb67] at H
 refine Tr (Mv (Iv 2) (Bo (Iv 2) (Iv 4) (Iv 6) eqg_int rfl (Av (Iv 6) (Ny (Lo a 0 (ptr pb) isAgg113 Z2 rfl (Cv call184 (c_name) H (K2 Z0 Z0) (.tail (E2 Z0 Z0)) fun s85 ts86 H => Av (Tx s85) (Nz (Lo a 0 (ptr pb) isAgg113 Z2 rfl (Cv call134 (c_take [63]) H (K2 Z0 Z0) (.tail (E2 Z0 Z0)) fun b88 ts89 H => Nt ?_)))))))))
 cases hb91 : (b88)
 · try simp only [nr, hb91] at H
   refine Fx (Mv (Tx s85) (Mv (Iv 6) (Mv (Iv t1.pos) (Lo a 0 (ptr pb) isAgg113 Z2 rfl (Cn call214 (hg (.optional) _ _ _ _) H (K2 Z0 Z0) (.tail (E2 Z0 Z0)) fun x92 ts93 q94 H => Bl 118 [ptr q94] (bs120_1 _ rfl ) fun b95 => WL_made (k := 66) (s := s85) (nu := 6) (a := t1.pos) rfl rfl (ent_kd1 (K2 Z0 Z0)) fun q96 => Av (ptr q96) (Nr ?_))))))
   try simp only [nr] at H
   exact At_ret1 results222 (fin_node H (K3 Z0 Z0 Z0) (E2 Z0 Z0))
 try simp only [nr, hb91] at H
 refine Tr (Mv (Iv 6) (Bo (Iv 6) (Iv 1) (Iv 7) eqg_int rfl (Av (Iv 7) (Ny (Mv (Tx s85) (Mv (Iv 7) (Mv (Iv t1.pos) (Lo a 0 (ptr pb) isAgg113 Z2 rfl (Cn call214 (hg (.optional) _ _ _ _) H (K2 Z0 Z0) (.tail (E2 Z0 Z0)) fun x97 ts98 q99 H => Bl 118 [ptr q99] (bs120_1 _ rfl ) fun b100 => WL_made (k := 66) (s := s85) (nu := 7) (a := t1.pos) rfl rfl (ent_kd1 (K2 Z0 Z0)) fun q101 => Av (ptr q101) (Nr ?_))))))))))
 try simp only [nr] at H
 exact At_ret1 results222 (fin_node H (K3 Z0 Z0 Z0) (E2 Z0 Z0))
theorem c_may (hg : CG g) (e : Bs) (a : Nat) : ConM 189 [Tx e, ptr a] pb tb L cap [Cl a 113 [ptr pb]] (mayM g e) resN := by
 intro ts r H F
 show ∀ w, Sat (PO pb tb L cap ts :: TB tb L :: Cl a 113 [ptr pb] :: F) w → _
 replace H := bpureH H
 unfold mayM at H
 try simp only [nr] at H
 refine calls_of_WC (fn := f189) func189 rfl rfl (Sr (Av (.pointer none) (Ny (Lo a 0 (ptr pb) isAgg113 Z2 rfl (Cn call188 (c_none) H (K2 Z0 Z0) (.tail (E1 Z0)) fun x1 ts2 q3 H => Av (ptr q3) (Nz (Lo a 0 (ptr pb) isAgg113 Z3 rfl (Mv (Tx e) (Cv call132 (c_is e) H (K2 Z1 Z1) (.tail (En Z1 D1)) fun b4 ts5 H => WL_rd (rd_not (b := b4) rfl) (Nt ?_))))))))))
 cases hb7 : (!b4)
 · try simp only [nr, hb7] at H
   refine Fx (Lo a 0 (ptr pb) isAgg113 Z3 rfl (Mv (Tx e) (Cv call139 (c_must e) H (K2 Z0 Z0) (.tail (En Z1 D1)) fun u8 ts9 H => Ny (Mv (ptr q3) (Av (ptr q3) (Nr ?_))))))
   try simp only [nr] at H
   exact At_ret1 results189 (fin_node H (K3 Z2 Z0 Z0) (E1 Z0))
 try simp only [nr, hb7] at H
 refine Tr (Lo a 0 (ptr pb) isAgg113 Z3 rfl (Cn call87 (hg (.expr) _ _ _ _) H (K2 Z0 Z0) (.tail (En Z1 D1)) fun x11 ts12 q13 H => Av (ptr q13) (Ny (Lo a 0 (ptr pb) isAgg113 Z4 rfl (Mv (Tx e) (Cv call139 (c_must e) H (K2 Z1 Z1) (.tail (En Z2 D2)) fun u14 ts15 H => Ny (Mv (ptr q13) (Av (ptr q13) (Nr ?_)))))))))
 try simp only [nr] at H
 exact At_ret1 results189 (fin_node H (K3 Z2 Z0 Z0) (En Z1 D1))
theorem c_decl (hK : K ≤ 274877906944) (hg : CG g) (t : Tk) : ConM 131 [ptr pb, tkVal t] pb tb L cap [] (declM K g t) resO := by
 intro ts r H F
 show ∀ w, Sat (PO pb tb L cap ts :: TB tb L :: F) w → _
 replace H := bpureH H
 unfold declM at H
 try simp only [nr] at H
 refine calls_of_WC (fn := f131) func131 rfl rfl (Sr (WL_ef (ef_box (v := .agg #[Iv t.kind, Tx t.text, Iv t.pos, Iv t.en]) (l := [Iv t.kind, Tx t.text, Iv t.pos, Iv t.en]) rfl rfl) fun b1 => Av (.pointer none) (Nt (WC_seq (WC_block (Sr (Mv (ptr pb) (Cv call132 (c_is [99, 111, 110, 115, 116]) H (K2 Z1 Z1) (.tail D1) fun b2 ts3 H => Mv (.bool b2) ?_))))))))
 cases hb5 : (b2)
 · try simp only [nr, hb5] at H
   refine Pa false 16 (Pa false 16 (Pa false 16 (Pk false (Av (.bool false) (Nt (WC_false rfl (Sr (Mv (ptr pb) (Cv call134 (c_take [108, 101, 116]) H (K2 Z0 Z0) (.tail D1) fun b6 ts7 H => Av (.bool b6) (Nt ?_))))))))))
   cases hb9 : (b6)
   rotate_left 1
   · try simp only [nr, hb9] at H
     refine Ts (Mv (ptr pb) (Fa b1 0 fa47_2 (Lo b1 2 (Iv t.pos) isAgg3 Z2 rfl (Cn call180 (hg (.variabl 0 t.pos) _ _ _ _) H (K2 Z0 Z0) (.tail D1) fun x87 ts88 q89 H => Av (ptr q89) (Ny (Mv (ptr pb) (Cv call139 (c_must [59]) H (K2 Z1 Z1) (.tail D2) fun u90 ts91 H => Ny (Mv (ptr q89) (Av (ptr q89) (Nr (At_blockR (At_thenR ?_))))))))))))
     try simp only [nr] at H
     exact At_ret1 results131 (fin_some H (K3 Z2 Z0 Z0) D1)
   try simp only [nr, hb9] at H
   refine WC_false rfl (Sr (Mv (ptr pb) (Cv call134 (c_take [99, 111, 110, 115, 116]) H (K2 Z0 Z0) (.tail D1) fun b10 ts11 H => Av (.bool b10) (Nt ?_))))
   cases hb13 : (b10)
   rotate_left 1
   · try simp only [nr, hb13] at H
     refine Ts (Mv (ptr pb) (Fa b1 0 fa47_2 (Lo b1 2 (Iv t.pos) isAgg3 Z2 rfl (Cn call180 (hg (.variabl 1 t.pos) _ _ _ _) H (K2 Z0 Z0) (.tail D1) fun x81 ts82 q83 H => Av (ptr q83) (Ny (Mv (ptr pb) (Cv call139 (c_must [59]) H (K2 Z1 Z1) (.tail D2) fun u84 ts85 H => Ny (Mv (ptr q83) (Av (ptr q83) (Nr (At_blockR (At_thenR ?_))))))))))))
     try simp only [nr] at H
     exact At_ret1 results131 (fin_some H (K3 Z2 Z0 Z0) D1)
   try simp only [nr, hb13] at H
   refine WC_false rfl (Sr (Mv (ptr pb) (Cv call134 (c_take [102, 117, 110, 99, 116, 105, 111, 110]) H (K2 Z0 Z0) (.tail D1) fun b14 ts15 H => Av (.bool b14) (Nt ?_))))
   cases hb17 : (b14)
   rotate_left 1
   · try simp only [nr, hb17] at H
     refine Ts (Mv (ptr pb) (Fa b1 0 fa47_2 (Lo b1 2 (Iv t.pos) isAgg3 Z2 rfl (Cn call181 (hg (.functio 41 t.pos) _ _ _ _) H (K2 Z0 Z0) (.tail D1) fun x78 ts79 q80 H => Av (ptr q80) (Nr (At_blockR (At_thenR ?_)))))))
     try simp only [nr] at H
     exact At_ret1 results131 (fin_some H (K3 Z0 Z0 Z0) D1)
   try simp only [nr, hb17] at H
   refine WC_false rfl (Sr (Mv (ptr pb) (Cv call134 (c_take [99, 108, 97, 115, 115]) H (K2 Z0 Z0) (.tail D1) fun b18 ts19 H => Av (.bool b18) (Nt ?_))))
   cases hb21 : (b18)
   rotate_left 1
   · try simp only [nr, hb21] at H
     refine Ts (Mv (ptr pb) (Fa b1 0 fa47_2 (Lo b1 2 (Iv t.pos) isAgg3 Z2 rfl (Cn call182 (hg (.clas t.pos) _ _ _ _) H (K2 Z0 Z0) (.tail D1) fun x75 ts76 q77 H => Av (ptr q77) (Nr (At_blockR (At_thenR ?_)))))))
     try simp only [nr] at H
     exact At_ret1 results131 (fin_some H (K3 Z0 Z0 Z0) D1)
   try simp only [nr, hb21] at H
   refine WC_false rfl (Sr (Mv (ptr pb) (Cv call132 (c_is [101, 110, 117, 109]) H (K2 Z0 Z0) (.tail D1) fun b22 ts23 H => Av (.bool b22) (Nt ?_))))
   cases hb25 : (b22)
   rotate_left 1
   · try simp only [nr, hb25] at H
     refine Ts (Mv (ptr pb) (Fa b1 0 fa47_2 (Lo b1 2 (Iv t.pos) isAgg3 Z2 rfl (Cn call179 (hg (.enu 0 t.pos) _ _ _ _) H (K2 Z0 Z0) (.tail D1) fun x72 ts73 q74 H => Av (ptr q74) (Nr (At_blockR (At_thenR ?_)))))))
     try simp only [nr] at H
     exact At_ret1 results131 (fin_some H (K3 Z0 Z0 Z0) D1)
   try simp only [nr, hb25] at H
   refine WC_false rfl (Sr (Mv (ptr pb) (Cv call134 (c_take [110, 97, 109, 101, 115, 112, 97, 99, 101]) H (K2 Z0 Z0) (.tail D1) fun b26 ts27 H => Av (.bool b26) (Nt ?_))))
   cases hb29 : (b26)
   rotate_left 1
   · try simp only [nr, hb29] at H
     refine Ts (Mv (ptr pb) (Fa b1 0 fa47_2 (Lo b1 2 (Iv t.pos) isAgg3 Z2 rfl (Cn call183 (hg (.namespac t.pos) _ _ _ _) H (K2 Z0 Z0) (.tail D1) fun x69 ts70 q71 H => Av (ptr q71) (Nr (At_blockR (At_thenR ?_)))))))
     try simp only [nr] at H
     exact At_ret1 results131 (fin_some H (K3 Z0 Z0 Z0) D1)
   try simp only [nr, hb29] at H
   refine WC_false rfl (Sr (Mv (ptr pb) (Cv call134 (c_take [105, 110, 116, 101, 114, 102, 97, 99, 101]) H (K2 Z0 Z0) (.tail D1) fun b30 ts31 H => Av (.bool b30) (Nt ?_))))
   cases hb33 : (b30)
   · try simp only [nr, hb33] at H
     refine WC_false rfl (Sr (Mv (ptr pb) (Cv call134 (c_take [116, 121, 112, 101]) H (K2 Z0 Z0) (.tail D1) fun b34 ts35 H => Av (.bool b34) (Nt ?_))))
     cases hb37 : (b34)
     · try simp only [nr, hb37] at H
       refine WC_false rfl (WC_skip (At_blockN (At_then (Sr (Av (.pointer none) (Nr ?_))))))
       try simp only [nr] at H
       exact At_ret1 results131 (fin_none H rfl (K2 Z0 Z0) D1)
     try simp only [nr, hb37] at H
     refine Ts (Mv (ptr pb) (Cv call184 (c_name) H (K2 Z0 Z0) (.tail D1) fun s38 ts39 H => Av (Tx s38) (Ny (Mv (ptr pb) (Cn call185 (c_vars hK) H (K2 Z0 Z0) (.tail D1) fun x41 ts42 q43 H => Av (ptr q43) (Ny (Mv (ptr pb) (Cv call139 (c_must [61]) H (K2 Z1 Z1) (.tail D2) fun u44 ts45 H => Ny (Mv (ptr pb) (Cn call88 (hg (.typed) _ _ _ _) H (K2 Z0 Z0) (.tail D2) fun x47 ts48 q49 H => Av (ptr q49) (Ny (Mv (ptr pb) (Cv call139 (c_must [59]) H (K2 Z1 Z1) (.tail D3) fun u50 ts51 H => Ny (Mv (Tx s38) (Fa b1 0 fa47_2 (Lo b1 2 (Iv t.pos) isAgg3 Z4 rfl (Mv (ptr q43) (Mv (ptr q49) (Bl 118 [ptr q43, ptr q49] (bs120_2 _ _ rfl rfl ) fun b53 => WL_made (k := 52) (s := s38) (nu := 0) (a := t.pos) rfl rfl (ent_kd2 (K3 Z0 Z3 Z2)) fun q54 => Av (ptr q54) (Nr (At_blockR (At_thenR ?_))))))))))))))))))))))
     try simp only [nr] at H
     exact At_ret1 results131 (fin_some H (K3 Z0 Z0 Z0) D1)
   try simp only [nr, hb33] at H
   refine Ts (Mv (ptr pb) (Cv call184 (c_name) H (K2 Z0 Z0) (.tail D1) fun s55 ts56 H => Av (Tx s55) (Ny (Mv (ptr pb) (Cn call185 (c_vars hK) H (K2 Z0 Z0) (.tail D1) fun x58 ts59 q60 H => Av (ptr q60) (Ny (Mv (ptr pb) (Cn call186 (hg (.refs [101, 120, 116, 101, 110, 100, 115]) _ _ _ _) H (K2 Z1 Z1) (.tail D2) fun x61 ts62 q63 H => Av (ptr q63) (Nt (WC_seq (WC_draw [9] [Cl b1 47 [Iv t.kind, Tx t.text, Iv t.pos, Iv t.en]] mixed (Dt 0 rfl rfl (Q0 (K1 Z4)) (Rm (Tx s55) rfl) (Dt 1 rfl rfl (Q0 (K1 Z4)) (Rf b1 0 fa47_2 rfl) (Dt 2 rfl rfl (Q0 (K1 Z4)) (Rl b1 2 (Iv t.pos) isAgg3 rfl Z0 rfl) (Dt 3 rfl rfl (Q0 (K1 Z4)) (Rm (ptr q60) rfl) (Dt 4 rfl rfl (Q0 (K1 Z4)) (Rm (ptr q63) rfl) (Dt 5 rfl rfl (Q0 (K1 Z4)) (Rm (ptr pb) rfl) (WD_callN 6 (by kernel_rfl) rfl rfl rfl (run_call call187 (args_map rfl)) (hg (.objectType) _ _ _ _) H (K2 Z1 Z1) (fun _ _ h => ⟨rfl, h⟩) rfl (.tail D3) (Q0 (K1 Z2)) fun x64 ts65 q66 H => WD_ef 7 (by kernel_rfl) rfl rfl rfl (ef_buildSlice (E := 118) (vs := [(0, ptr q60), (1, ptr q63), (2, ptr q66)]) (l := [ptr q60, ptr q63, ptr q66]) rfl (bs120_3 _ _ _ rfl rfl rfl )) (fun _ _ => Q0 (K1 (.succ (.succ Z4)))) fun b67 => WD_made 8 (by kernel_rfl) rfl rfl rfl (run_call call84 (args_map (args := [Iv 51, Tx s55, Iv 0, Iv t.pos, Sl b67 3 3]) rfl)) rfl (ent_kd3 (K4 Z0 Z4 Z3 Z0)) (Q0 (K1 Z2)) fun q68 => WD_rd 9 (by kernel_rfl) rfl rfl rfl (Ra (ptr q68) rfl) (late_vac (i := 9) (by kernel_rfl) (by decide)) ?_))))))))))))))))))
   refine WD_done (by kernel_rfl) ?_ _
   refine At_then (WC_ret (At_blockR (At_thenR ?_)))
   try simp only [nr] at H
   exact At_ret1 results131 (fin_some H (K3 Z0 Z0 Z0) D1)
 try simp only [nr, hb5] at H
 refine Ta true 16 (Mv (ptr pb) (Ta true 16 (Cv call177 (c_then1) H (K2 Z0 Z0) (.tail D1) fun t93 ts94 H => Ta true 16 (WL_callQ (Δ := []) (v := .bool (saysB t93 [101, 110, 117, 109])) call176 rfl (c_says t93 [101, 110, 117, 109]) .nil (Pk true (Av (.bool (saysB t93 [101, 110, 117, 109])) (Nt ?_)))))))
 cases hb96 : (saysB t93 [101, 110, 117, 109])
 rotate_left 1
 · try simp only [nr, hb96] at H
   refine Ts (Mv (ptr pb) (Cv call178 (c_next) H (K2 Z0 Z0) (.tail D1) fun t184 ts185 H => Ny (Mv (ptr pb) (Fa b1 0 fa47_2 (Lo b1 2 (Iv t.pos) isAgg3 Z2 rfl (Cn call179 (hg (.enu 1 t.pos) _ _ _ _) H (K2 Z0 Z0) (.tail D1) fun x187 ts188 q189 H => Av (ptr q189) (Nr (At_blockR (At_thenR ?_)))))))))
   try simp only [nr] at H
   exact At_ret1 results131 (fin_some H (K3 Z0 Z0 Z0) D1)
 try simp only [nr, hb96] at H
 refine WC_false rfl (Sr (Mv (ptr pb) (Cv call134 (c_take [108, 101, 116]) H (K2 Z0 Z0) (.tail D1) fun b97 ts98 H => Av (.bool b97) (Nt ?_))))
 cases hb100 : (b97)
 rotate_left 1
 · try simp only [nr, hb100] at H
   refine Ts (Mv (ptr pb) (Fa b1 0 fa47_2 (Lo b1 2 (Iv t.pos) isAgg3 Z2 rfl (Cn call180 (hg (.variabl 0 t.pos) _ _ _ _) H (K2 Z0 Z0) (.tail D1) fun x178 ts179 q180 H => Av (ptr q180) (Ny (Mv (ptr pb) (Cv call139 (c_must [59]) H (K2 Z1 Z1) (.tail D2) fun u181 ts182 H => Ny (Mv (ptr q180) (Av (ptr q180) (Nr (At_blockR (At_thenR ?_))))))))))))
   try simp only [nr] at H
   exact At_ret1 results131 (fin_some H (K3 Z2 Z0 Z0) D1)
 try simp only [nr, hb100] at H
 refine WC_false rfl (Sr (Mv (ptr pb) (Cv call134 (c_take [99, 111, 110, 115, 116]) H (K2 Z0 Z0) (.tail D1) fun b101 ts102 H => Av (.bool b101) (Nt ?_))))
 cases hb104 : (b101)
 rotate_left 1
 · try simp only [nr, hb104] at H
   refine Ts (Mv (ptr pb) (Fa b1 0 fa47_2 (Lo b1 2 (Iv t.pos) isAgg3 Z2 rfl (Cn call180 (hg (.variabl 1 t.pos) _ _ _ _) H (K2 Z0 Z0) (.tail D1) fun x172 ts173 q174 H => Av (ptr q174) (Ny (Mv (ptr pb) (Cv call139 (c_must [59]) H (K2 Z1 Z1) (.tail D2) fun u175 ts176 H => Ny (Mv (ptr q174) (Av (ptr q174) (Nr (At_blockR (At_thenR ?_))))))))))))
   try simp only [nr] at H
   exact At_ret1 results131 (fin_some H (K3 Z2 Z0 Z0) D1)
 try simp only [nr, hb104] at H
 refine WC_false rfl (Sr (Mv (ptr pb) (Cv call134 (c_take [102, 117, 110, 99, 116, 105, 111, 110]) H (K2 Z0 Z0) (.tail D1) fun b105 ts106 H => Av (.bool b105) (Nt ?_))))
 cases hb108 : (b105)
 rotate_left 1
 · try simp only [nr, hb108] at H
   refine Ts (Mv (ptr pb) (Fa b1 0 fa47_2 (Lo b1 2 (Iv t.pos) isAgg3 Z2 rfl (Cn call181 (hg (.functio 41 t.pos) _ _ _ _) H (K2 Z0 Z0) (.tail D1) fun x169 ts170 q171 H => Av (ptr q171) (Nr (At_blockR (At_thenR ?_)))))))
   try simp only [nr] at H
   exact At_ret1 results131 (fin_some H (K3 Z0 Z0 Z0) D1)
 try simp only [nr, hb108] at H
 refine WC_false rfl (Sr (Mv (ptr pb) (Cv call134 (c_take [99, 108, 97, 115, 115]) H (K2 Z0 Z0) (.tail D1) fun b109 ts110 H => Av (.bool b109) (Nt ?_))))
 cases hb112 : (b109)
 rotate_left 1
 · try simp only [nr, hb112] at H
   refine Ts (Mv (ptr pb) (Fa b1 0 fa47_2 (Lo b1 2 (Iv t.pos) isAgg3 Z2 rfl (Cn call182 (hg (.clas t.pos) _ _ _ _) H (K2 Z0 Z0) (.tail D1) fun x166 ts167 q168 H => Av (ptr q168) (Nr (At_blockR (At_thenR ?_)))))))
   try simp only [nr] at H
   exact At_ret1 results131 (fin_some H (K3 Z0 Z0 Z0) D1)
 try simp only [nr, hb112] at H
 refine WC_false rfl (Sr (Mv (ptr pb) (Cv call132 (c_is [101, 110, 117, 109]) H (K2 Z0 Z0) (.tail D1) fun b113 ts114 H => Av (.bool b113) (Nt ?_))))
 cases hb116 : (b113)
 rotate_left 1
 · try simp only [nr, hb116] at H
   refine Ts (Mv (ptr pb) (Fa b1 0 fa47_2 (Lo b1 2 (Iv t.pos) isAgg3 Z2 rfl (Cn call179 (hg (.enu 0 t.pos) _ _ _ _) H (K2 Z0 Z0) (.tail D1) fun x163 ts164 q165 H => Av (ptr q165) (Nr (At_blockR (At_thenR ?_)))))))
   try simp only [nr] at H
   exact At_ret1 results131 (fin_some H (K3 Z0 Z0 Z0) D1)
 try simp only [nr, hb116] at H
 refine WC_false rfl (Sr (Mv (ptr pb) (Cv call134 (c_take [110, 97, 109, 101, 115, 112, 97, 99, 101]) H (K2 Z0 Z0) (.tail D1) fun b117 ts118 H => Av (.bool b117) (Nt ?_))))
 cases hb120 : (b117)
 rotate_left 1
 · try simp only [nr, hb120] at H
   refine Ts (Mv (ptr pb) (Fa b1 0 fa47_2 (Lo b1 2 (Iv t.pos) isAgg3 Z2 rfl (Cn call183 (hg (.namespac t.pos) _ _ _ _) H (K2 Z0 Z0) (.tail D1) fun x160 ts161 q162 H => Av (ptr q162) (Nr (At_blockR (At_thenR ?_)))))))
   try simp only [nr] at H
   exact At_ret1 results131 (fin_some H (K3 Z0 Z0 Z0) D1)
 try simp only [nr, hb120] at H
 refine WC_false rfl (Sr (Mv (ptr pb) (Cv call134 (c_take [105, 110, 116, 101, 114, 102, 97, 99, 101]) H (K2 Z0 Z0) (.tail D1) fun b121 ts122 H => Av (.bool b121) (Nt ?_))))
 cases hb124 : (b121)
 · try simp only [nr, hb124] at H
   refine WC_false rfl (Sr (Mv (ptr pb) (Cv call134 (c_take [116, 121, 112, 101]) H (K2 Z0 Z0) (.tail D1) fun b125 ts126 H => Av (.bool b125) (Nt ?_))))
   cases hb128 : (b125)
   · try simp only [nr, hb128] at H
     refine WC_false rfl (WC_skip (At_blockN (At_then (Sr (Av (.pointer none) (Nr ?_))))))
     try simp only [nr] at H
     exact At_ret1 results131 (fin_none H rfl (K2 Z0 Z0) D1)
   try simp only [nr, hb128] at H
   refine Ts (Mv (ptr pb) (Cv call184 (c_name) H (K2 Z0 Z0) (.tail D1) fun s129 ts130 H => Av (Tx s129) (Ny (Mv (ptr pb) (Cn call185 (c_vars hK) H (K2 Z0 Z0) (.tail D1) fun x132 ts133 q134 H => Av (ptr q134) (Ny (Mv (ptr pb) (Cv call139 (c_must [61]) H (K2 Z1 Z1) (.tail D2) fun u135 ts136 H => Ny (Mv (ptr pb) (Cn call88 (hg (.typed) _ _ _ _) H (K2 Z0 Z0) (.tail D2) fun x138 ts139 q140 H => Av (ptr q140) (Ny (Mv (ptr pb) (Cv call139 (c_must [59]) H (K2 Z1 Z1) (.tail D3) fun u141 ts142 H => Ny (Mv (Tx s129) (Fa b1 0 fa47_2 (Lo b1 2 (Iv t.pos) isAgg3 Z4 rfl (Mv (ptr q134) (Mv (ptr q140) (Bl 118 [ptr q134, ptr q140] (bs120_2 _ _ rfl rfl ) fun b144 => WL_made (k := 52) (s := s129) (nu := 0) (a := t.pos) rfl rfl (ent_kd2 (K3 Z0 Z3 Z2)) fun q145 => Av (ptr q145) (Nr (At_blockR (At_thenR ?_))))))))))))))))))))))
   try simp only [nr] at H
   exact At_ret1 results131 (fin_some H (K3 Z0 Z0 Z0) D1)
 try simp only [nr, hb124] at H
 refine Ts (Mv (ptr pb) (Cv call184 (c_name) H (K2 Z0 Z0) (.tail D1) fun s146 ts147 H => Av (Tx s146) (Ny (Mv (ptr pb) (Cn call185 (c_vars hK) H (K2 Z0 Z0) (.tail D1) fun x149 ts150 q151 H => Av (ptr q151) (Ny (Mv (ptr pb) (Cn call186 (hg (.refs [101, 120, 116, 101, 110, 100, 115]) _ _ _ _) H (K2 Z1 Z1) (.tail D2) fun x152 ts153 q154 H => Av (ptr q154) (Nt (WC_seq (WC_draw [9] [Cl b1 47 [Iv t.kind, Tx t.text, Iv t.pos, Iv t.en]] mixed (Dt 0 rfl rfl (Q0 (K1 Z4)) (Rm (Tx s146) rfl) (Dt 1 rfl rfl (Q0 (K1 Z4)) (Rf b1 0 fa47_2 rfl) (Dt 2 rfl rfl (Q0 (K1 Z4)) (Rl b1 2 (Iv t.pos) isAgg3 rfl Z0 rfl) (Dt 3 rfl rfl (Q0 (K1 Z4)) (Rm (ptr q151) rfl) (Dt 4 rfl rfl (Q0 (K1 Z4)) (Rm (ptr q154) rfl) (Dt 5 rfl rfl (Q0 (K1 Z4)) (Rm (ptr pb) rfl) (WD_callN 6 (by kernel_rfl) rfl rfl rfl (run_call call187 (args_map rfl)) (hg (.objectType) _ _ _ _) H (K2 Z1 Z1) (fun _ _ h => ⟨rfl, h⟩) rfl (.tail D3) (Q0 (K1 Z2)) fun x155 ts156 q157 H => WD_ef 7 (by kernel_rfl) rfl rfl rfl (ef_buildSlice (E := 118) (vs := [(0, ptr q151), (1, ptr q154), (2, ptr q157)]) (l := [ptr q151, ptr q154, ptr q157]) rfl (bs120_3 _ _ _ rfl rfl rfl )) (fun _ _ => Q0 (K1 (.succ (.succ Z4)))) fun b158 => WD_made 8 (by kernel_rfl) rfl rfl rfl (run_call call84 (args_map (args := [Iv 51, Tx s146, Iv 0, Iv t.pos, Sl b158 3 3]) rfl)) rfl (ent_kd3 (K4 Z0 Z4 Z3 Z0)) (Q0 (K1 Z2)) fun q159 => WD_rd 9 (by kernel_rfl) rfl rfl rfl (Ra (ptr q159) rfl) (late_vac (i := 9) (by kernel_rfl) (by decide)) ?_))))))))))))))))))
 refine WD_done (by kernel_rfl) ?_ _
 refine At_then (WC_ret (At_blockR (At_thenR ?_)))
 try simp only [nr] at H
 exact At_ret1 results131 (fin_some H (K3 Z0 Z0 Z0) D1)
theorem n_plain (hg : CG g) : ConM 194 [ptr pb] pb tb L cap [] (plainM g) resN := by
 intro ts r H F
 show ∀ w, Sat (PO pb tb L cap ts :: TB tb L :: F) w → _
 replace H := bpureH H
 unfold plainM at H
 try simp only [nr] at H
 refine calls_of_WC (fn := f194) func194 rfl rfl (Sr (Av (.pointer none) (Ny (Mv (ptr pb) (WL.know (po_know Z0) fun hok => WL_callVm call85 rfl c_now H (K2 Z0 Z0) (fun _ _ h => ⟨rfl, h⟩) rfl (.tail E0) ?_)))))
 intro t1 ts2 hm H9
 clear H
 obtain ⟨htok, hts', rest', hrest⟩ := head_ok hok hm
 subst hts'
 have H := H9
 clear H9
 refine WL_ef (ef_alloc (l := [Iv 0, Tx [], Iv 0, Iv 0]) zeroValue47 rfl) fun b3 => Sa b3 0 [Iv t1.kind, Tx t1.text, Iv t1.pos, Iv t1.en] sizeOf47 Z0 (.put (.put (.put (.put .done)))) (Nt (WC_seq (WC_block (Sr (Mv (ptr pb) (Cv call132 (c_is [40]) H (K2 Z1 Z1) (.tail D1) fun b4 ts5 H => Mv (.bool b4) ?_))))))
 cases hb7 : (b4)
 · try simp only [nr, hb7] at H
   refine Pa false 10 (Pa false 10 (Pa false 10 (Pk false (Av (.bool false) (Nt (WC_false rfl (Sr (Mv (ptr pb) (Cv call134 (c_take [40]) H (K2 Z0 Z0) (.tail D1) fun b8 ts9 H => Av (.bool b8) (Nt ?_))))))))))
   cases hb11 : (b8)
   rotate_left 1
   · try simp only [nr, hb11] at H
     refine Ts (Mv (ptr pb) (Cn call88 (hg (.typed) _ _ _ _) H (K2 Z0 Z0) (.tail D1) fun x43 ts44 q45 H => Av (ptr q45) (Ny (Mv (ptr pb) (Cv call139 (c_must [41]) H (K2 Z1 Z1) (.tail D2) fun u46 ts47 H => Ny (Mv (ptr q45) (Av (ptr q45) (Nr (At_blockR (At_thenR ?_))))))))))
     try simp only [nr] at H
     exact At_ret1 results194 (fin_node H (K3 Z2 Z0 Z0) D1)
   try simp only [nr, hb11] at H
   refine WC_false rfl (Sr (Fa b3 0 fa47_0 (Lo b3 0 (Iv t1.kind) isAgg3 Z2 rfl (Bo (Iv t1.kind) (Iv 3) (.bool (t1.kind == 3)) eqg_int (binOp_eql _ _ _ _) (Av (.bool (t1.kind == 3)) (Nt ?_))))))
   cases hb12 : (t1.kind == 3)
   rotate_left 1
   · try simp only [nr, hb12] at H
     refine Ts (Mv (ptr pb) (Cv call178 (c_next) H (K2 Z0 Z0) (.tail D1) fun t39 ts40 H => Nt (WC_seq (WC_draw [6] [Cl b3 47 [Iv t1.kind, Tx t1.text, Iv t1.pos, Iv t1.en]] mixed (Dt 0 rfl rfl (Q0 (K1 Z2)) (Rf b3 0 fa47_1 rfl) (Dt 1 rfl rfl (Q0 (K1 Z2)) (Rl b3 1 (Tx t1.text) isAgg9 rfl Z0 rfl) (Dt 3 rfl rfl (Q0 (K1 Z2)) (Rf b3 0 fa47_2 rfl) (Dt 4 rfl rfl (Q0 (K1 Z2)) (Rl b3 2 (Iv t1.pos) isAgg3 rfl Z0 rfl) (WD_callP 2 (by kernel_rfl) rfl rfl rfl (Δ0 := []) (Δ := []) (v := Iv (numOf t1.text)) (run_call call226 (args_map (args := [Tx t1.text]) rfl)) (c_numberT htok (by simpa using hb12)) .nil (Q0 (K1 Z2)) (WD_made 5 (by kernel_rfl) rfl rfl rfl (run_call call84 (args_map (args := [Iv 81, Tx [], Iv (numOf t1.text), Iv t1.pos, .slice none 0 0]) rfl)) rfl (ent_kd0) (Q0 (K1 Z2)) fun q42 => WD_rd 6 (by kernel_rfl) rfl rfl rfl (Ra (ptr q42) rfl) (late_vac (i := 6) (by kernel_rfl) (by decide)) ?_))))))))))
     refine WD_done (by kernel_rfl) ?_ _
     refine At_then (WC_ret (At_blockR (At_thenR ?_)))
     try simp only [nr] at H
     exact At_ret1 results194 (fin_node H (K3 Z0 Z0 Z0) D1)
   try simp only [nr, hb12] at H
   refine WC_false rfl (Sr (Mv (ptr pb) (Cv call134 (c_take [45]) H (K2 Z0 Z0) (.tail D1) fun b13 ts14 H => Av (.bool b13) (Nt ?_))))
   cases hb16 : (b13)
   · try simp only [nr, hb16] at H
     refine WC_false rfl (Sr (Fa b3 0 fa47_0 (Lo b3 0 (Iv t1.kind) isAgg3 Z2 rfl (Bo (Iv t1.kind) (Iv 4) (.bool (t1.kind == 4)) eqg_int (binOp_eql _ _ _ _) (Av (.bool (t1.kind == 4)) (Nt ?_))))))
     cases hb17 : (t1.kind == 4)
     rotate_left 1
     · try simp only [nr, hb17] at H
       refine Ts (Mv (ptr pb) (Cv call178 (c_next) H (K2 Z0 Z0) (.tail D1) fun t28 ts29 H => Ny (Fa b3 0 fa47_1 (Lo b3 1 (Tx t1.text) isAgg9 Z2 rfl (Fa b3 0 fa47_2 (Lo b3 2 (Iv t1.pos) isAgg3 Z2 rfl (WL_made (k := 82) (s := t1.text) (nu := 0) (a := t1.pos) rfl rfl (ent_kd0) fun q31 => Av (ptr q31) (Nr (At_blockR (At_thenR ?_))))))))))
       try simp only [nr] at H
       exact At_ret1 results194 (fin_node H (K3 Z0 Z0 Z0) D1)
     try simp only [nr, hb17] at H
     refine WC_false rfl (Sr (Mv (ptr pb) (Cv call132 (c_is [123]) H (K2 Z0 Z0) (.tail D1) fun b18 ts19 H => Av (.bool b18) (Nt ?_))))
     cases hb21 : (b18)
     rotate_left 1
     · try simp only [nr, hb21] at H
       refine Ts (Mv (ptr pb) (Cn call187 (hg (.objectType) _ _ _ _) H (K2 Z0 Z0) (.tail D1) fun x25 ts26 q27 H => Av (ptr q27) (Nr (At_blockR (At_thenR ?_)))))
       try simp only [nr] at H
       exact At_ret1 results194 (fin_node H (K3 Z0 Z0 Z0) D1)
     try simp only [nr, hb21] at H
     refine WC_false rfl (WC_skip (At_blockN (At_then (Sr (Mv (ptr pb) (Cn call220 (hg (.ref) _ _ _ _) H (K2 Z0 Z0) (.tail D1) fun x22 ts23 q24 H => Av (ptr q24) (Nr ?_)))))))
     try simp only [nr] at H
     exact At_ret1 results194 (fin_node H (K3 Z0 Z0 Z0) D1)
   try simp only [nr, hb16] at H
   refine WC_true rfl (Sz (Mv (ptr pb) (WL.know (po_know Z0) fun hok => WL_callVm call85 rfl c_now H (K2 Z0 Z0) (fun _ _ h => ⟨rfl, h⟩) rfl (.tail D1) ?_)))
   intro t32 ts33 hm H9
   clear H
   obtain ⟨htok, hts', rest', hrest⟩ := head_ok hok hm
   subst hts'
   have H := H9
   clear H9
   refine WL_rd (rd_field (u := .agg #[Iv t32.kind, Tx t32.text, Iv t32.pos, Iv t32.en]) (v := Iv t32.kind) rfl (fv47_0 _ _ _ _ )) (Bo (Iv t32.kind) (Iv 3) (.bool (t32.kind != 3)) eqg_int (binOp_neq _ _ _ _) (Nt ?_))
   cases hb34 : (t32.kind != 3)
   rotate_left 1
   · try simp only [nr, hb34] at H
     refine Tr (Mv (ptr pb) ?_)
     exact WL_fail call89 rfl c_fail H (K2 Z0 Z0) (fun _ _ h => ⟨rfl, h⟩) rfl (.tail D1)
   try simp only [nr, hb34] at H
   refine Fs (WC_seq (WC_draw [8] [Cl b3 47 [Iv t1.kind, Tx t1.text, Iv t1.pos, Iv t1.en]] mixed (Dt 0 rfl rfl (Q0 (K1 Z2)) (Rm (ptr pb) rfl) (Dt 5 rfl rfl (Q0 (K1 Z2)) (Rf b3 0 fa47_2 rfl) (Dt 6 rfl rfl (Q0 (K1 Z2)) (Rl b3 2 (Iv t1.pos) isAgg3 rfl Z0 rfl) (WD_callVm 1 (by kernel_rfl) rfl rfl rfl (run_call call178 (args_map rfl)) (c_next) H (K2 Z0 Z0) (fun _ _ h => ⟨rfl, h⟩) rfl (.tail D1) (Q0 (K1 Z0)) fun t35 ts36 hmV H => WD_rd 2 (by kernel_rfl) rfl rfl rfl (rd_field (u := .agg #[Iv t35.kind, Tx t35.text, Iv t35.pos, Iv t35.en]) (v := Tx t35.text) rfl (fv47_1 _ _ _ _ )) (fun _ => Q0 (K1 Z2)) (WD_callP 3 (by kernel_rfl) rfl rfl rfl (Δ0 := []) (Δ := []) (v := Iv (numOf t35.text)) (run_call call226 (args_map (args := [Tx t35.text]) rfl)) (by rw [next_head hrest hmV]; exact c_numberT htok (by simpa using hb34)) .nil (Q0 (K1 Z2)) (WD_rd 4 (by kernel_rfl) rfl rfl rfl (rd_neg (a := numOf t35.text) rfl (by rw [next_head hrest hmV]; have hnb := num_bound htok (by simpa using hb34); omega) (by rw [next_head hrest hmV]; have hnb := num_bound htok (by simpa using hb34); omega)) (fun _ => Q0 (K1 Z2)) (WD_made 7 (by kernel_rfl) rfl rfl rfl (run_call call84 (args_map (args := [Iv 81, Tx [], Iv (-(numOf t35.text)), Iv t1.pos, .slice none 0 0]) rfl)) rfl (ent_kd0) (Q0 (K1 Z2)) fun q38 => WD_rd 8 (by kernel_rfl) rfl rfl rfl (Ra (ptr q38) rfl) (late_vac (i := 8) (by kernel_rfl) (by decide)) ?_)))))))))
   refine WD_done (by kernel_rfl) ?_ _
   refine At_then (WC_ret (At_blockR (At_thenR ?_)))
   try simp only [nr] at H
   exact At_ret1 results194 (fin_node H (K3 Z0 Z0 Z0) D1)
 try simp only [nr, hb7] at H
 refine Ta true 10 (Mv (ptr pb) (Ta true 10 (Cv call190 (c_closed) H (K2 Z0 Z0) (.tail D1) fun t49 ts50 H => Ta true 10 (WL_callQ (Δ := []) (v := .bool (saysB t49 [61, 62])) call176 rfl (c_says t49 [61, 62]) .nil (Pk true (Av (.bool (saysB t49 [61, 62])) (Nt ?_)))))))
 cases hb52 : (saysB t49 [61, 62])
 rotate_left 1
 · try simp only [nr, hb52] at H
   refine Ts (Mv (ptr pb) (Cn call225 (hg (.arrowType) _ _ _ _) H (K2 Z0 Z0) (.tail D1) fun x94 ts95 q96 H => Av (ptr q96) (Nr (At_blockR (At_thenR ?_)))))
   try simp only [nr] at H
   exact At_ret1 results194 (fin_node H (K3 Z0 Z0 Z0) D1)
 try simp only [nr, hb52] at H
 refine WC_false rfl (Sr (Mv (ptr pb) (Cv call134 (c_take [40]) H (K2 Z0 Z0) (.tail D1) fun b53 ts54 H => Av (.bool b53) (Nt ?_))))
 cases hb56 : (b53)
 rotate_left 1
 · try simp only [nr, hb56] at H
   refine Ts (Mv (ptr pb) (Cn call88 (hg (.typed) _ _ _ _) H (K2 Z0 Z0) (.tail D1) fun x88 ts89 q90 H => Av (ptr q90) (Ny (Mv (ptr pb) (Cv call139 (c_must [41]) H (K2 Z1 Z1) (.tail D2) fun u91 ts92 H => Ny (Mv (ptr q90) (Av (ptr q90) (Nr (At_blockR (At_thenR ?_))))))))))
   try simp only [nr] at H
   exact At_ret1 results194 (fin_node H (K3 Z2 Z0 Z0) D1)
 try simp only [nr, hb56] at H
 refine WC_false rfl (Sr (Fa b3 0 fa47_0 (Lo b3 0 (Iv t1.kind) isAgg3 Z2 rfl (Bo (Iv t1.kind) (Iv 3) (.bool (t1.kind == 3)) eqg_int (binOp_eql _ _ _ _) (Av (.bool (t1.kind == 3)) (Nt ?_))))))
 cases hb57 : (t1.kind == 3)
 rotate_left 1
 · try simp only [nr, hb57] at H
   refine Ts (Mv (ptr pb) (Cv call178 (c_next) H (K2 Z0 Z0) (.tail D1) fun t84 ts85 H => Nt (WC_seq (WC_draw [6] [Cl b3 47 [Iv t1.kind, Tx t1.text, Iv t1.pos, Iv t1.en]] mixed (Dt 0 rfl rfl (Q0 (K1 Z2)) (Rf b3 0 fa47_1 rfl) (Dt 1 rfl rfl (Q0 (K1 Z2)) (Rl b3 1 (Tx t1.text) isAgg9 rfl Z0 rfl) (Dt 3 rfl rfl (Q0 (K1 Z2)) (Rf b3 0 fa47_2 rfl) (Dt 4 rfl rfl (Q0 (K1 Z2)) (Rl b3 2 (Iv t1.pos) isAgg3 rfl Z0 rfl) (WD_callP 2 (by kernel_rfl) rfl rfl rfl (Δ0 := []) (Δ := []) (v := Iv (numOf t1.text)) (run_call call226 (args_map (args := [Tx t1.text]) rfl)) (c_numberT htok (by simpa using hb57)) .nil (Q0 (K1 Z2)) (WD_made 5 (by kernel_rfl) rfl rfl rfl (run_call call84 (args_map (args := [Iv 81, Tx [], Iv (numOf t1.text), Iv t1.pos, .slice none 0 0]) rfl)) rfl (ent_kd0) (Q0 (K1 Z2)) fun q87 => WD_rd 6 (by kernel_rfl) rfl rfl rfl (Ra (ptr q87) rfl) (late_vac (i := 6) (by kernel_rfl) (by decide)) ?_))))))))))
   refine WD_done (by kernel_rfl) ?_ _
   refine At_then (WC_ret (At_blockR (At_thenR ?_)))
   try simp only [nr] at H
   exact At_ret1 results194 (fin_node H (K3 Z0 Z0 Z0) D1)
 try simp only [nr, hb57] at H
 refine WC_false rfl (Sr (Mv (ptr pb) (Cv call134 (c_take [45]) H (K2 Z0 Z0) (.tail D1) fun b58 ts59 H => Av (.bool b58) (Nt ?_))))
 cases hb61 : (b58)
 · try simp only [nr, hb61] at H
   refine WC_false rfl (Sr (Fa b3 0 fa47_0 (Lo b3 0 (Iv t1.kind) isAgg3 Z2 rfl (Bo (Iv t1.kind) (Iv 4) (.bool (t1.kind == 4)) eqg_int (binOp_eql _ _ _ _) (Av (.bool (t1.kind == 4)) (Nt ?_))))))
   cases hb62 : (t1.kind == 4)
   rotate_left 1
   · try simp only [nr, hb62] at H
     refine Ts (Mv (ptr pb) (Cv call178 (c_next) H (K2 Z0 Z0) (.tail D1) fun t73 ts74 H => Ny (Fa b3 0 fa47_1 (Lo b3 1 (Tx t1.text) isAgg9 Z2 rfl (Fa b3 0 fa47_2 (Lo b3 2 (Iv t1.pos) isAgg3 Z2 rfl (WL_made (k := 82) (s := t1.text) (nu := 0) (a := t1.pos) rfl rfl (ent_kd0) fun q76 => Av (ptr q76) (Nr (At_blockR (At_thenR ?_))))))))))
     try simp only [nr] at H
     exact At_ret1 results194 (fin_node H (K3 Z0 Z0 Z0) D1)
   try simp only [nr, hb62] at H
   refine WC_false rfl (Sr (Mv (ptr pb) (Cv call132 (c_is [123]) H (K2 Z0 Z0) (.tail D1) fun b63 ts64 H => Av (.bool b63) (Nt ?_))))
   cases hb66 : (b63)
   rotate_left 1
   · try simp only [nr, hb66] at H
     refine Ts (Mv (ptr pb) (Cn call187 (hg (.objectType) _ _ _ _) H (K2 Z0 Z0) (.tail D1) fun x70 ts71 q72 H => Av (ptr q72) (Nr (At_blockR (At_thenR ?_)))))
     try simp only [nr] at H
     exact At_ret1 results194 (fin_node H (K3 Z0 Z0 Z0) D1)
   try simp only [nr, hb66] at H
   refine WC_false rfl (WC_skip (At_blockN (At_then (Sr (Mv (ptr pb) (Cn call220 (hg (.ref) _ _ _ _) H (K2 Z0 Z0) (.tail D1) fun x67 ts68 q69 H => Av (ptr q69) (Nr ?_)))))))
   try simp only [nr] at H
   exact At_ret1 results194 (fin_node H (K3 Z0 Z0 Z0) D1)
 try simp only [nr, hb61] at H
 refine WC_true rfl (Sz (Mv (ptr pb) (WL.know (po_know Z0) fun hok => WL_callVm call85 rfl c_now H (K2 Z0 Z0) (fun _ _ h => ⟨rfl, h⟩) rfl (.tail D1) ?_)))
 intro t77 ts78 hm H9
 clear H
 obtain ⟨htok, hts', rest', hrest⟩ := head_ok hok hm
 subst hts'
 have H := H9
 clear H9
 refine WL_rd (rd_field (u := .agg #[Iv t77.kind, Tx t77.text, Iv t77.pos, Iv t77.en]) (v := Iv t77.kind) rfl (fv47_0 _ _ _ _ )) (Bo (Iv t77.kind) (Iv 3) (.bool (t77.kind != 3)) eqg_int (binOp_neq _ _ _ _) (Nt ?_))
 cases hb79 : (t77.kind != 3)
 rotate_left 1
 · try simp only [nr, hb79] at H
   refine Tr (Mv (ptr pb) ?_)
   exact WL_fail call89 rfl c_fail H (K2 Z0 Z0) (fun _ _ h => ⟨rfl, h⟩) rfl (.tail D1)
 try simp only [nr, hb79] at H
 refine Fs (WC_seq (WC_draw [8] [Cl b3 47 [Iv t1.kind, Tx t1.text, Iv t1.pos, Iv t1.en]] mixed (Dt 0 rfl rfl (Q0 (K1 Z2)) (Rm (ptr pb) rfl) (Dt 5 rfl rfl (Q0 (K1 Z2)) (Rf b3 0 fa47_2 rfl) (Dt 6 rfl rfl (Q0 (K1 Z2)) (Rl b3 2 (Iv t1.pos) isAgg3 rfl Z0 rfl) (WD_callVm 1 (by kernel_rfl) rfl rfl rfl (run_call call178 (args_map rfl)) (c_next) H (K2 Z0 Z0) (fun _ _ h => ⟨rfl, h⟩) rfl (.tail D1) (Q0 (K1 Z0)) fun t80 ts81 hmV H => WD_rd 2 (by kernel_rfl) rfl rfl rfl (rd_field (u := .agg #[Iv t80.kind, Tx t80.text, Iv t80.pos, Iv t80.en]) (v := Tx t80.text) rfl (fv47_1 _ _ _ _ )) (fun _ => Q0 (K1 Z2)) (WD_callP 3 (by kernel_rfl) rfl rfl rfl (Δ0 := []) (Δ := []) (v := Iv (numOf t80.text)) (run_call call226 (args_map (args := [Tx t80.text]) rfl)) (by rw [next_head hrest hmV]; exact c_numberT htok (by simpa using hb79)) .nil (Q0 (K1 Z2)) (WD_rd 4 (by kernel_rfl) rfl rfl rfl (rd_neg (a := numOf t80.text) rfl (by rw [next_head hrest hmV]; have hnb := num_bound htok (by simpa using hb79); omega) (by rw [next_head hrest hmV]; have hnb := num_bound htok (by simpa using hb79); omega)) (fun _ => Q0 (K1 Z2)) (WD_made 7 (by kernel_rfl) rfl rfl rfl (run_call call84 (args_map (args := [Iv 81, Tx [], Iv (-(numOf t80.text)), Iv t1.pos, .slice none 0 0]) rfl)) rfl (ent_kd0) (Q0 (K1 Z2)) fun q83 => WD_rd 8 (by kernel_rfl) rfl rfl rfl (Ra (ptr q83) rfl) (late_vac (i := 8) (by kernel_rfl) (by decide)) ?_)))))))))
 refine WD_done (by kernel_rfl) ?_ _
 refine At_then (WC_ret (At_blockR (At_thenR ?_)))
 try simp only [nr] at H
 exact At_ret1 results194 (fin_node H (K3 Z0 Z0 Z0) D1)
theorem n_statement (hK : K ≤ 274877906944) (hg : CG g) : ConM 86 [ptr pb] pb tb L cap [] (statementM K g) resN := by
 intro ts r H F
 show ∀ w, Sat (PO pb tb L cap ts :: TB tb L :: F) w → _
 replace H := bpureH H
 unfold statementM at H
 try simp only [nr, restM] at H
 refine calls_of_WC (fn := f86) func86 rfl rfl (Sr (Av (.pointer none) (Ny (Mv (ptr pb) (Cv call85 (c_now) H (K2 Z0 Z0) (.tail E0) fun t1 ts2 H => WL_ef (ef_alloc (l := [Iv 0, Tx [], Iv 0, Iv 0]) zeroValue47 rfl) fun b4 => Sa b4 0 [Iv t1.kind, Tx t1.text, Iv t1.pos, Iv t1.en] sizeOf47 Z0 (.put (.put (.put (.put .done)))) (Nz (Fa b4 0 fa47_0 (Lo b4 0 (Iv t1.kind) isAgg3 Z0 rfl (Bo (Iv t1.kind) (Iv 2) (.bool (t1.kind == 2)) eqg_int (binOp_eql _ _ _ _) (Nt ?_))))))))))
 cases hb5 : (t1.kind == 2)
 · try simp only [nr, hb5, restM] at H
   refine Fs (WC_seq (WC_block (Sr (Mv (ptr pb) (Cv call132 (c_is [123]) H (K2 Z1 Z1) (.tail D1) fun b6 ts7 H => Av (.bool b6) (Nt ?_))))))
   cases hb9 : (b6)
   rotate_left 1
   · try simp only [nr, hb9, restM] at H
     refine Ts (Mv (ptr pb) (Cn call133 (hg (.block) _ _ _ _) H (K2 Z0 Z0) (.tail D1) fun x81 ts82 q83 H => Av (ptr q83) (Nr (At_blockR (At_thenR ?_)))))
     try simp only [nr, restM] at H
     exact At_ret1 results86 (fin_node H (K3 Z0 Z0 Z0) D1)
   try simp only [nr, hb9, restM] at H
   refine WC_false rfl (Sr (Mv (ptr pb) (Cv call134 (c_take [59]) H (K2 Z0 Z0) (.tail D1) fun b10 ts11 H => Av (.bool b10) (Nt ?_))))
   cases hb13 : (b10)
   rotate_left 1
   · try simp only [nr, hb13, restM] at H
     refine Ts (Fa b4 0 fa47_2 (Lo b4 2 (Iv t1.pos) isAgg3 Z2 rfl (WL_made (k := 65) (s := []) (nu := 0) (a := t1.pos) rfl rfl (ent_kd0) fun q80 => Av (ptr q80) (Nr (At_blockR (At_thenR ?_))))))
     try simp only [nr, restM] at H
     exact At_ret1 results86 (fin_node H (K3 Z0 Z0 Z0) D1)
   try simp only [nr, hb13, restM] at H
   refine WC_false rfl (Sr (Mv (ptr pb) (Cv call132 (c_is [105, 102]) H (K2 Z0 Z0) (.tail D1) fun b14 ts15 H => Av (.bool b14) (Nt ?_))))
   cases hb17 : (b14)
   rotate_left 1
   · try simp only [nr, hb17, restM] at H
     refine Ts (Mv (ptr pb) (Cn call135 (hg (.branch) _ _ _ _) H (K2 Z0 Z0) (.tail D1) fun x77 ts78 q79 H => Av (ptr q79) (Nr (At_blockR (At_thenR ?_)))))
     try simp only [nr, restM] at H
     exact At_ret1 results86 (fin_node H (K3 Z0 Z0 Z0) D1)
   try simp only [nr, hb17, restM] at H
   refine WC_false rfl (Sr (Mv (ptr pb) (Cv call134 (c_take [119, 104, 105, 108, 101]) H (K2 Z0 Z0) (.tail D1) fun b18 ts19 H => Av (.bool b18) (Nt ?_))))
   cases hb21 : (b18)
   rotate_left 1
   · try simp only [nr, hb21, restM] at H
     refine Ts (Mv (ptr pb) (Cn call136 (hg (.round) _ _ _ _) H (K2 Z0 Z0) (.tail D1) fun x69 ts70 q71 H => Av (ptr q71) (Nt (WC_seq (WC_draw [7] [Cl b4 47 [Iv t1.kind, Tx t1.text, Iv t1.pos, Iv t1.en]] mixed (Dt 0 rfl rfl (Q0 (K1 Z3)) (Rf b4 0 fa47_2 rfl) (Dt 1 rfl rfl (Q0 (K1 Z3)) (Rl b4 2 (Iv t1.pos) isAgg3 rfl Z0 rfl) (Dt 2 rfl rfl (Q0 (K1 Z3)) (Rm (ptr q71) rfl) (Dt 3 rfl rfl (Q0 (K1 Z3)) (Rm (ptr pb) rfl) (WD_callN 4 (by kernel_rfl) rfl rfl rfl (run_call call133 (args_map rfl)) (hg (.block) _ _ _ _) H (K2 Z1 Z1) (fun _ _ h => ⟨rfl, h⟩) rfl (.tail D2) (Q0 (K1 Z1)) fun x72 ts73 q74 H => WD_ef 5 (by kernel_rfl) rfl rfl rfl (ef_buildSlice (E := 118) (vs := [(0, ptr q71), (1, ptr q74)]) (l := [ptr q71, ptr q74]) rfl (bs120_2 _ _ rfl rfl )) (fun _ _ => Q0 (K1 (.succ Z4))) fun b75 => WD_made 6 (by kernel_rfl) rfl rfl rfl (run_call call84 (args_map (args := [Iv 54, Tx [], Iv 0, Iv t1.pos, Sl b75 2 2]) rfl)) rfl (ent_kd2 (K3 Z0 Z3 Z0)) (Q0 (K1 Z2)) fun q76 => WD_rd 7 (by kernel_rfl) rfl rfl rfl (Ra (ptr q76) rfl) (late_vac (i := 7) (by kernel_rfl) (by decide)) ?_))))))))))
     refine WD_done (by kernel_rfl) ?_ _
     refine At_then (WC_ret (At_blockR (At_thenR ?_)))
     try simp only [nr, restM] at H
     exact At_ret1 results86 (fin_node H (K3 Z0 Z0 Z0) D1)
   try simp only [nr, hb21, restM] at H
   refine WC_false rfl (Sr (Mv (ptr pb) (Cv call134 (c_take [102, 111, 114]) H (K2 Z0 Z0) (.tail D1) fun b22 ts23 H => Av (.bool b22) (Nt ?_))))
   cases hb25 : (b22)
   rotate_left 1
   · try simp only [nr, hb25, restM] at H
     refine Ts (Mv (ptr pb) (Fa b4 0 fa47_2 (Lo b4 2 (Iv t1.pos) isAgg3 Z2 rfl (Cn call137 (hg (.loop t1.pos) _ _ _ _) H (K2 Z0 Z0) (.tail D1) fun x66 ts67 q68 H => Av (ptr q68) (Nr (At_blockR (At_thenR ?_)))))))
     try simp only [nr, restM] at H
     exact At_ret1 results86 (fin_node H (K3 Z0 Z0 Z0) D1)
   try simp only [nr, hb25, restM] at H
   refine WC_false rfl (Sr (Mv (ptr pb) (Cv call134 (c_take [114, 101, 116, 117, 114, 110]) H (K2 Z0 Z0) (.tail D1) fun b26 ts27 H => Av (.bool b26) (Nt ?_))))
   cases hb29 : (b26)
   rotate_left 1
   · try simp only [nr, hb29, restM] at H
     refine Ts (Mv (ptr pb) (Fa b4 0 fa47_2 (Lo b4 2 (Iv t1.pos) isAgg3 Z2 rfl (Cn call138 (hg (.ended 57 t1.pos true) _ _ _ _) H (K2 Z0 Z0) (.tail D1) fun x63 ts64 q65 H => Av (ptr q65) (Nr (At_blockR (At_thenR ?_)))))))
     try simp only [nr, restM] at H
     exact At_ret1 results86 (fin_node H (K3 Z0 Z0 Z0) D1)
   try simp only [nr, hb29, restM] at H
   refine WC_false rfl (Sr (Mv (ptr pb) (Cv call134 (c_take [116, 104, 114, 111, 119]) H (K2 Z0 Z0) (.tail D1) fun b30 ts31 H => Av (.bool b30) (Nt ?_))))
   cases hb33 : (b30)
   rotate_left 1
   · try simp only [nr, hb33, restM] at H
     refine Ts (Mv (ptr pb) (Fa b4 0 fa47_2 (Lo b4 2 (Iv t1.pos) isAgg3 Z2 rfl (Cn call138 (hg (.ended 60 t1.pos false) _ _ _ _) H (K2 Z0 Z0) (.tail D1) fun x60 ts61 q62 H => Av (ptr q62) (Nr (At_blockR (At_thenR ?_)))))))
     try simp only [nr, restM] at H
     exact At_ret1 results86 (fin_node H (K3 Z0 Z0 Z0) D1)
   try simp only [nr, hb33, restM] at H
   refine WC_false rfl (Sr (Mv (ptr pb) (Cv call134 (c_take [98, 114, 101, 97, 107]) H (K2 Z0 Z0) (.tail D1) fun b34 ts35 H => Av (.bool b34) (Nt ?_))))
   cases hb37 : (b34)
   rotate_left 1
   · try simp only [nr, hb37, restM] at H
     refine Ts (Mv (ptr pb) (Cv call139 (c_must [59]) H (K2 Z0 Z0) (.tail D1) fun u56 ts57 H => Ny (Fa b4 0 fa47_2 (Lo b4 2 (Iv t1.pos) isAgg3 Z2 rfl (WL_made (k := 58) (s := []) (nu := 0) (a := t1.pos) rfl rfl (ent_kd0) fun q59 => Av (ptr q59) (Nr (At_blockR (At_thenR ?_))))))))
     try simp only [nr, restM] at H
     exact At_ret1 results86 (fin_node H (K3 Z0 Z0 Z0) D1)
   try simp only [nr, hb37, restM] at H
   refine WC_false rfl (Sr (Mv (ptr pb) (Cv call134 (c_take [99, 111, 110, 116, 105, 110, 117, 101]) H (K2 Z0 Z0) (.tail D1) fun b38 ts39 H => Av (.bool b38) (Nt ?_))))
   cases hb41 : (b38)
   rotate_left 1
   · try simp only [nr, hb41, restM] at H
     refine Ts (Mv (ptr pb) (Cv call139 (c_must [59]) H (K2 Z0 Z0) (.tail D1) fun u52 ts53 H => Ny (Fa b4 0 fa47_2 (Lo b4 2 (Iv t1.pos) isAgg3 Z2 rfl (WL_made (k := 59) (s := []) (nu := 0) (a := t1.pos) rfl rfl (ent_kd0) fun q55 => Av (ptr q55) (Nr (At_blockR (At_thenR ?_))))))))
     try simp only [nr, restM] at H
     exact At_ret1 results86 (fin_node H (K3 Z0 Z0 Z0) D1)
   try simp only [nr, hb41, restM] at H
   refine WC_false rfl (Sr (Mv (ptr pb) (Cv call134 (c_take [116, 114, 121]) H (K2 Z0 Z0) (.tail D1) fun b42 ts43 H => Av (.bool b42) (Nt ?_))))
   cases hb45 : (b42)
   rotate_left 1
   · try simp only [nr, hb45, restM] at H
     refine Ts (Mv (ptr pb) (Fa b4 0 fa47_2 (Lo b4 2 (Iv t1.pos) isAgg3 Z2 rfl (Cn call140 (hg (.tri t1.pos) _ _ _ _) H (K2 Z0 Z0) (.tail D1) fun x49 ts50 q51 H => Av (ptr q51) (Nr (At_blockR (At_thenR ?_)))))))
     try simp only [nr, restM] at H
     exact At_ret1 results86 (fin_node H (K3 Z0 Z0 Z0) D1)
   try simp only [nr, hb45, restM] at H
   refine WC_false rfl (WC_skip (At_blockN (At_then (Sr (Mv (ptr pb) (Fa b4 0 fa47_2 (Lo b4 2 (Iv t1.pos) isAgg3 Z2 rfl (Cn call138 (hg (.ended 64 t1.pos false) _ _ _ _) H (K2 Z0 Z0) (.tail D1) fun x46 ts47 q48 H => Av (ptr q48) (Nr ?_)))))))))
   try simp only [nr, restM] at H
   exact At_ret1 results86 (fin_node H (K3 Z0 Z0 Z0) D1)
 try simp only [nr, hb5, restM] at H
 refine Ts (Mv (ptr pb) (WL_rd (rd_loadN (b := b4) (o := 0) (vs := [Iv t1.kind, Tx t1.text, Iv t1.pos, Iv t1.en]) isAgg47 sizeOf47 rfl Z0 rfl rfl) ?_))
 refine WL_callO call131 rfl (c_decl hK hg t1) H (K2 Z1 Z1) (fun _ _ h => ⟨rfl, h⟩) rfl (.tail D1) ?_ ?_
 rotate_left 1
 · intro x84 ts85 q86 H
   try simp only [nr, restM] at H
   refine Av (ptr q86) (Ny (Mv (ptr q86) (WL_rd (rd_nePN (a := (some ⟨q86, 0, none⟩)) ptr118 rfl) (Nt (Ts (Mv (ptr q86) (Av (ptr q86) (Nr (At_thenR ?_)))))))))
   try simp only [nr, restM] at H
   exact At_ret1 results86 (fin_node H (K3 Z0 Z0 Z0) D1)
 intro ts85 H
 try simp only [nr, restM] at H
 refine Av (.pointer none) (Ny (Mv (.pointer none) (WL_rd (rd_nePN (a := none) ptr118 rfl) (Nt (Fs (WC_seq (WC_block (Sr (Mv (ptr pb) (Cv call132 (c_is [123]) H (K2 Z0 Z0) (.tail D1) fun b87 ts88 H => Av (.bool b87) (Nt ?_)))))))))))
 cases hb90 : (b87)
 rotate_left 1
 · try simp only [nr, hb90, restM] at H
   refine Ts (Mv (ptr pb) (Cn call133 (hg (.block) _ _ _ _) H (K2 Z0 Z0) (.tail D1) fun x162 ts163 q164 H => Av (ptr q164) (Nr (At_blockR (At_thenR ?_)))))
   try simp only [nr, restM] at H
   exact At_ret1 results86 (fin_node H (K3 Z0 Z0 Z0) D1)
 try simp only [nr, hb90, restM] at H
 refine WC_false rfl (Sr (Mv (ptr pb) (Cv call134 (c_take [59]) H (K2 Z0 Z0) (.tail D1) fun b91 ts92 H => Av (.bool b91) (Nt ?_))))
 cases hb94 : (b91)
 rotate_left 1
 · try simp only [nr, hb94, restM] at H
   refine Ts (Fa b4 0 fa47_2 (Lo b4 2 (Iv t1.pos) isAgg3 Z2 rfl (WL_made (k := 65) (s := []) (nu := 0) (a := t1.pos) rfl rfl (ent_kd0) fun q161 => Av (ptr q161) (Nr (At_blockR (At_thenR ?_))))))
   try simp only [nr, restM] at H
   exact At_ret1 results86 (fin_node H (K3 Z0 Z0 Z0) D1)
 try simp only [nr, hb94, restM] at H
 refine WC_false rfl (Sr (Mv (ptr pb) (Cv call132 (c_is [105, 102]) H (K2 Z0 Z0) (.tail D1) fun b95 ts96 H => Av (.bool b95) (Nt ?_))))
 cases hb98 : (b95)
 rotate_left 1
 · try simp only [nr, hb98, restM] at H
   refine Ts (Mv (ptr pb) (Cn call135 (hg (.branch) _ _ _ _) H (K2 Z0 Z0) (.tail D1) fun x158 ts159 q160 H => Av (ptr q160) (Nr (At_blockR (At_thenR ?_)))))
   try simp only [nr, restM] at H
   exact At_ret1 results86 (fin_node H (K3 Z0 Z0 Z0) D1)
 try simp only [nr, hb98, restM] at H
 refine WC_false rfl (Sr (Mv (ptr pb) (Cv call134 (c_take [119, 104, 105, 108, 101]) H (K2 Z0 Z0) (.tail D1) fun b99 ts100 H => Av (.bool b99) (Nt ?_))))
 cases hb102 : (b99)
 rotate_left 1
 · try simp only [nr, hb102, restM] at H
   refine Ts (Mv (ptr pb) (Cn call136 (hg (.round) _ _ _ _) H (K2 Z0 Z0) (.tail D1) fun x150 ts151 q152 H => Av (ptr q152) (Nt (WC_seq (WC_draw [7] [Cl b4 47 [Iv t1.kind, Tx t1.text, Iv t1.pos, Iv t1.en]] mixed (Dt 0 rfl rfl (Q0 (K1 Z3)) (Rf b4 0 fa47_2 rfl) (Dt 1 rfl rfl (Q0 (K1 Z3)) (Rl b4 2 (Iv t1.pos) isAgg3 rfl Z0 rfl) (Dt 2 rfl rfl (Q0 (K1 Z3)) (Rm (ptr q152) rfl) (Dt 3 rfl rfl (Q0 (K1 Z3)) (Rm (ptr pb) rfl) (WD_callN 4 (by kernel_rfl) rfl rfl rfl (run_call call133 (args_map rfl)) (hg (.block) _ _ _ _) H (K2 Z1 Z1) (fun _ _ h => ⟨rfl, h⟩) rfl (.tail D2) (Q0 (K1 Z1)) fun x153 ts154 q155 H => WD_ef 5 (by kernel_rfl) rfl rfl rfl (ef_buildSlice (E := 118) (vs := [(0, ptr q152), (1, ptr q155)]) (l := [ptr q152, ptr q155]) rfl (bs120_2 _ _ rfl rfl )) (fun _ _ => Q0 (K1 (.succ Z4))) fun b156 => WD_made 6 (by kernel_rfl) rfl rfl rfl (run_call call84 (args_map (args := [Iv 54, Tx [], Iv 0, Iv t1.pos, Sl b156 2 2]) rfl)) rfl (ent_kd2 (K3 Z0 Z3 Z0)) (Q0 (K1 Z2)) fun q157 => WD_rd 7 (by kernel_rfl) rfl rfl rfl (Ra (ptr q157) rfl) (late_vac (i := 7) (by kernel_rfl) (by decide)) ?_))))))))))
   refine WD_done (by kernel_rfl) ?_ _
   refine At_then (WC_ret (At_blockR (At_thenR ?_)))
   try simp only [nr, restM] at H
   exact At_ret1 results86 (fin_node H (K3 Z0 Z0 Z0) D1)
 try simp only [nr, hb102, restM] at H
 refine WC_false rfl (Sr (Mv (ptr pb) (Cv call134 (c_take [102, 111, 114]) H (K2 Z0 Z0) (.tail D1) fun b103 ts104 H => Av (.bool b103) (Nt ?_))))
 cases hb106 : (b103)
 rotate_left 1
 · try simp only [nr, hb106, restM] at H
   refine Ts (Mv (ptr pb) (Fa b4 0 fa47_2 (Lo b4 2 (Iv t1.pos) isAgg3 Z2 rfl (Cn call137 (hg (.loop t1.pos) _ _ _ _) H (K2 Z0 Z0) (.tail D1) fun x147 ts148 q149 H => Av (ptr q149) (Nr (At_blockR (At_thenR ?_)))))))
   try simp only [nr, restM] at H
   exact At_ret1 results86 (fin_node H (K3 Z0 Z0 Z0) D1)
 try simp only [nr, hb106, restM] at H
 refine WC_false rfl (Sr (Mv (ptr pb) (Cv call134 (c_take [114, 101, 116, 117, 114, 110]) H (K2 Z0 Z0) (.tail D1) fun b107 ts108 H => Av (.bool b107) (Nt ?_))))
 cases hb110 : (b107)
 rotate_left 1
 · try simp only [nr, hb110, restM] at H
   refine Ts (Mv (ptr pb) (Fa b4 0 fa47_2 (Lo b4 2 (Iv t1.pos) isAgg3 Z2 rfl (Cn call138 (hg (.ended 57 t1.pos true) _ _ _ _) H (K2 Z0 Z0) (.tail D1) fun x144 ts145 q146 H => Av (ptr q146) (Nr (At_blockR (At_thenR ?_)))))))
   try simp only [nr, restM] at H
   exact At_ret1 results86 (fin_node H (K3 Z0 Z0 Z0) D1)
 try simp only [nr, hb110, restM] at H
 refine WC_false rfl (Sr (Mv (ptr pb) (Cv call134 (c_take [116, 104, 114, 111, 119]) H (K2 Z0 Z0) (.tail D1) fun b111 ts112 H => Av (.bool b111) (Nt ?_))))
 cases hb114 : (b111)
 rotate_left 1
 · try simp only [nr, hb114, restM] at H
   refine Ts (Mv (ptr pb) (Fa b4 0 fa47_2 (Lo b4 2 (Iv t1.pos) isAgg3 Z2 rfl (Cn call138 (hg (.ended 60 t1.pos false) _ _ _ _) H (K2 Z0 Z0) (.tail D1) fun x141 ts142 q143 H => Av (ptr q143) (Nr (At_blockR (At_thenR ?_)))))))
   try simp only [nr, restM] at H
   exact At_ret1 results86 (fin_node H (K3 Z0 Z0 Z0) D1)
 try simp only [nr, hb114, restM] at H
 refine WC_false rfl (Sr (Mv (ptr pb) (Cv call134 (c_take [98, 114, 101, 97, 107]) H (K2 Z0 Z0) (.tail D1) fun b115 ts116 H => Av (.bool b115) (Nt ?_))))
 cases hb118 : (b115)
 rotate_left 1
 · try simp only [nr, hb118, restM] at H
   refine Ts (Mv (ptr pb) (Cv call139 (c_must [59]) H (K2 Z0 Z0) (.tail D1) fun u137 ts138 H => Ny (Fa b4 0 fa47_2 (Lo b4 2 (Iv t1.pos) isAgg3 Z2 rfl (WL_made (k := 58) (s := []) (nu := 0) (a := t1.pos) rfl rfl (ent_kd0) fun q140 => Av (ptr q140) (Nr (At_blockR (At_thenR ?_))))))))
   try simp only [nr, restM] at H
   exact At_ret1 results86 (fin_node H (K3 Z0 Z0 Z0) D1)
 try simp only [nr, hb118, restM] at H
 refine WC_false rfl (Sr (Mv (ptr pb) (Cv call134 (c_take [99, 111, 110, 116, 105, 110, 117, 101]) H (K2 Z0 Z0) (.tail D1) fun b119 ts120 H => Av (.bool b119) (Nt ?_))))
 cases hb122 : (b119)
 rotate_left 1
 · try simp only [nr, hb122, restM] at H
   refine Ts (Mv (ptr pb) (Cv call139 (c_must [59]) H (K2 Z0 Z0) (.tail D1) fun u133 ts134 H => Ny (Fa b4 0 fa47_2 (Lo b4 2 (Iv t1.pos) isAgg3 Z2 rfl (WL_made (k := 59) (s := []) (nu := 0) (a := t1.pos) rfl rfl (ent_kd0) fun q136 => Av (ptr q136) (Nr (At_blockR (At_thenR ?_))))))))
   try simp only [nr, restM] at H
   exact At_ret1 results86 (fin_node H (K3 Z0 Z0 Z0) D1)
 try simp only [nr, hb122, restM] at H
 refine WC_false rfl (Sr (Mv (ptr pb) (Cv call134 (c_take [116, 114, 121]) H (K2 Z0 Z0) (.tail D1) fun b123 ts124 H => Av (.bool b123) (Nt ?_))))
 cases hb126 : (b123)
 rotate_left 1
 · try simp only [nr, hb126, restM] at H
   refine Ts (Mv (ptr pb) (Fa b4 0 fa47_2 (Lo b4 2 (Iv t1.pos) isAgg3 Z2 rfl (Cn call140 (hg (.tri t1.pos) _ _ _ _) H (K2 Z0 Z0) (.tail D1) fun x130 ts131 q132 H => Av (ptr q132) (Nr (At_blockR (At_thenR ?_)))))))
   try simp only [nr, restM] at H
   exact At_ret1 results86 (fin_node H (K3 Z0 Z0 Z0) D1)
 try simp only [nr, hb126, restM] at H
 refine WC_false rfl (WC_skip (At_blockN (At_then (Sr (Mv (ptr pb) (Fa b4 0 fa47_2 (Lo b4 2 (Iv t1.pos) isAgg3 Z2 rfl (Cn call138 (hg (.ended 64 t1.pos false) _ _ _ _) H (K2 Z0 Z0) (.tail D1) fun x127 ts128 q129 H => Av (ptr q129) (Nr ?_)))))))))
 try simp only [nr, restM] at H
 exact At_ret1 results86 (fin_node H (K3 Z0 Z0 Z0) D1)
theorem n_expr (hg : CG g) : ConM 87 [ptr pb] pb tb L cap [] (exprM g) resN := by
 intro ts r H F
 show ∀ w, Sat (PO pb tb L cap ts :: TB tb L :: F) w → _
 replace H := bpureH H
 unfold exprM at H
 try simp only [nr] at H
 refine calls_of_WC (fn := f87) func87 rfl rfl (Sr (Av (.pointer none) (Ny (Mv (ptr pb) (Cv call85 (c_now) H (K2 Z0 Z0) (.tail E0) fun t1 ts2 H => WL_rd (rd_field (u := .agg #[Iv t1.kind, Tx t1.text, Iv t1.pos, Iv t1.en]) (v := Iv t1.pos) rfl (fv47_2 _ _ _ _ )) (Av (Iv t1.pos) (Nz (Mv (ptr pb) (Cv call141 (c_arrow) H (K2 Z0 Z0) (.tail E0) fun b4 ts5 H => Nt ?_)))))))))
 cases hb7 : (b4)
 rotate_left 1
 · try simp only [nr, hb7] at H
   refine Ts (Mv (ptr pb) (Mv (Iv t1.pos) (Cn call142 (hg (.arrowed t1.pos) _ _ _ _) H (K2 Z0 Z0) (.tail E0) fun x134 ts135 q136 H => Av (ptr q136) (Nr (At_thenR ?_)))))
   try simp only [nr] at H
   exact At_ret1 results87 (fin_node H (K3 Z0 Z0 Z0) E0)
 try simp only [nr, hb7] at H
 refine Fx (Mv (ptr pb) (Cn call143 (hg (.cond) _ _ _ _) H (K2 Z0 Z0) (.tail E0) fun x8 ts9 q10 H => Av (ptr q10) (Nz (Mv (ptr pb) (Cv call85 (c_now) H (K2 Z1 Z1) (.tail D1) fun t11 ts12 H => WL_rd (rd_field (u := .agg #[Iv t11.kind, Tx t11.text, Iv t11.pos, Iv t11.en]) (v := Tx t11.text) rfl (fv47_1 _ _ _ _ )) (Av (Tx t11.text) (Nt (WC_block (Sz (Mv (ptr pb) (Cv call134 (c_take [61]) H (K2 Z0 Z0) (.tail D1) fun b14 ts15 H => Av (.bool b14) (Nt ?_))))))))))))
 cases hb17 : (b14)
 rotate_left 1
 · try simp only [nr, hb17] at H
   refine WC_true rfl (WC_skip (At_then (WC_true rfl (Sz (Mv (ptr q10) (Nc q10 0 (Fa q10 0 fa122_0 (Fa q10 0 fa39_0 ?_))))))))
   obtain ⟨k114, s114, n114, a114, l114⟩ := x8
   try simp only [nr] at H
   refine WL.openN Z2 fun v115 => Lo q10 0 (Iv k114) isAgg3 Z0 rfl (Bo (Iv k114) (Iv 17) (.bool (k114 != 17)) eqg_int (binOp_neq _ _ _ _) (Mv (.bool (k114 != 17)) ?_))
   cases hb116 : (k114 != 17)
   · try simp only [nr, hb116] at H
     refine Pa false 36 (Pa false 36 (Pa false 36 (Pa false 36 (Pa false 36 (Pa false 36 (Pk false (Mv (.bool false) (Pa false 44 (Pa false 44 (Pa false 44 (Pa false 44 (Pa false 44 (Pa false 44 (Pk false (Nt (Fx (Mv (Tx t11.text) (Mv (Iv t1.pos) (Mv (ptr q10) (Mv (ptr pb) (Cn call87 (hg (.expr) _ _ _ _) H (K2 Z2 Z2) (.tail D2) fun x117 ts118 q119 H => Bl 118 [ptr q10, ptr q119] (bs120_2 _ _ rfl rfl ) fun b120 => WL.ent (closeN (K2 Z4 Z4)) (WL_made (k := 26) (s := t11.text) (nu := 0) (a := t1.pos) rfl rfl (ent_kd2 (K3 Z1 Z0 Z0)) fun q121 => Av (ptr q121) (Nr (At_blockR (At_thenR ?_)))))))))))))))))))))))))
     try simp only [nr] at H
     exact At_ret1 results87 (fin_node H (K3 Z0 Z0 Z0) E0)
   try simp only [nr, hb116] at H
   refine Ta true 36 (Mv (ptr q10) (Ta true 36 (Nc q10 0 (Ta true 36 (Fa q10 0 fa122_0 (Ta true 36 (Fa q10 0 fa39_0 (Ta true 36 (Lo q10 0 (Iv k114) isAgg3 Z0 rfl (Ta true 36 (Bo (Iv k114) (Iv 29) (.bool (k114 != 29)) eqg_int (binOp_neq _ _ _ _) (Pk true (Mv (.bool (k114 != 29)) ?_)))))))))))))
   cases hb122 : (k114 != 29)
   · try simp only [nr, hb122] at H
     refine Pa false 44 (Pa false 44 (Pa false 44 (Pa false 44 (Pa false 44 (Pa false 44 (Pk false (Nt (Fx (Mv (Tx t11.text) (Mv (Iv t1.pos) (Mv (ptr q10) (Mv (ptr pb) (Cn call87 (hg (.expr) _ _ _ _) H (K2 Z2 Z2) (.tail D2) fun x123 ts124 q125 H => Bl 118 [ptr q10, ptr q125] (bs120_2 _ _ rfl rfl ) fun b126 => WL.ent (closeN (K2 Z4 Z4)) (WL_made (k := 26) (s := t11.text) (nu := 0) (a := t1.pos) rfl rfl (ent_kd2 (K3 Z1 Z0 Z0)) fun q127 => Av (ptr q127) (Nr (At_blockR (At_thenR ?_)))))))))))))))))
     try simp only [nr] at H
     exact At_ret1 results87 (fin_node H (K3 Z0 Z0 Z0) E0)
   try simp only [nr, hb122] at H
   refine Ta true 44 (Mv (ptr q10) (Ta true 44 (Nc q10 0 (Ta true 44 (Fa q10 0 fa122_0 (Ta true 44 (Fa q10 0 fa39_0 (Ta true 44 (Lo q10 0 (Iv k114) isAgg3 Z0 rfl (Ta true 44 (Bo (Iv k114) (Iv 30) (.bool (k114 != 30)) eqg_int (binOp_neq _ _ _ _) (Pk true (Nt ?_)))))))))))))
   cases hb128 : (k114 != 30)
   rotate_left 1
   · try simp only [nr, hb128] at H
     refine Tr (Mv (ptr pb) ?_)
     exact WL_fail call89 rfl c_fail H (K2 Z2 Z2) (fun _ _ h => ⟨rfl, h⟩) rfl (.tail D2)
   try simp only [nr, hb128] at H
   refine Fx (Mv (Tx t11.text) (Mv (Iv t1.pos) (Mv (ptr q10) (Mv (ptr pb) (Cn call87 (hg (.expr) _ _ _ _) H (K2 Z2 Z2) (.tail D2) fun x129 ts130 q131 H => Bl 118 [ptr q10, ptr q131] (bs120_2 _ _ rfl rfl ) fun b132 => WL.ent (closeN (K2 Z4 Z4)) (WL_made (k := 26) (s := t11.text) (nu := 0) (a := t1.pos) rfl rfl (ent_kd2 (K3 Z1 Z0 Z0)) fun q133 => Av (ptr q133) (Nr (At_blockR (At_thenR ?_)))))))))
   try simp only [nr] at H
   exact At_ret1 results87 (fin_node H (K3 Z0 Z0 Z0) E0)
 try simp only [nr, hb17] at H
 refine WC_false rfl (Sr (Mv (ptr pb) (Cv call134 (c_take [43, 61]) H (K2 Z0 Z0) (.tail D1) fun b18 ts19 H => Av (.bool b18) (Nt ?_))))
 cases hb21 : (b18)
 rotate_left 1
 · try simp only [nr, hb21] at H
   refine WC_true rfl (WC_skip (At_then (WC_true rfl (Sz (Mv (ptr q10) (Nc q10 0 (Fa q10 0 fa122_0 (Fa q10 0 fa39_0 ?_))))))))
   obtain ⟨k94, s94, n94, a94, l94⟩ := x8
   try simp only [nr] at H
   refine WL.openN Z2 fun v95 => Lo q10 0 (Iv k94) isAgg3 Z0 rfl (Bo (Iv k94) (Iv 17) (.bool (k94 != 17)) eqg_int (binOp_neq _ _ _ _) (Mv (.bool (k94 != 17)) ?_))
   cases hb96 : (k94 != 17)
   · try simp only [nr, hb96] at H
     refine Pa false 36 (Pa false 36 (Pa false 36 (Pa false 36 (Pa false 36 (Pa false 36 (Pk false (Mv (.bool false) (Pa false 44 (Pa false 44 (Pa false 44 (Pa false 44 (Pa false 44 (Pa false 44 (Pk false (Nt (Fx (Mv (Tx t11.text) (Mv (Iv t1.pos) (Mv (ptr q10) (Mv (ptr pb) (Cn call87 (hg (.expr) _ _ _ _) H (K2 Z2 Z2) (.tail D2) fun x97 ts98 q99 H => Bl 118 [ptr q10, ptr q99] (bs120_2 _ _ rfl rfl ) fun b100 => WL.ent (closeN (K2 Z4 Z4)) (WL_made (k := 26) (s := t11.text) (nu := 0) (a := t1.pos) rfl rfl (ent_kd2 (K3 Z1 Z0 Z0)) fun q101 => Av (ptr q101) (Nr (At_blockR (At_thenR ?_)))))))))))))))))))))))))
     try simp only [nr] at H
     exact At_ret1 results87 (fin_node H (K3 Z0 Z0 Z0) E0)
   try simp only [nr, hb96] at H
   refine Ta true 36 (Mv (ptr q10) (Ta true 36 (Nc q10 0 (Ta true 36 (Fa q10 0 fa122_0 (Ta true 36 (Fa q10 0 fa39_0 (Ta true 36 (Lo q10 0 (Iv k94) isAgg3 Z0 rfl (Ta true 36 (Bo (Iv k94) (Iv 29) (.bool (k94 != 29)) eqg_int (binOp_neq _ _ _ _) (Pk true (Mv (.bool (k94 != 29)) ?_)))))))))))))
   cases hb102 : (k94 != 29)
   · try simp only [nr, hb102] at H
     refine Pa false 44 (Pa false 44 (Pa false 44 (Pa false 44 (Pa false 44 (Pa false 44 (Pk false (Nt (Fx (Mv (Tx t11.text) (Mv (Iv t1.pos) (Mv (ptr q10) (Mv (ptr pb) (Cn call87 (hg (.expr) _ _ _ _) H (K2 Z2 Z2) (.tail D2) fun x103 ts104 q105 H => Bl 118 [ptr q10, ptr q105] (bs120_2 _ _ rfl rfl ) fun b106 => WL.ent (closeN (K2 Z4 Z4)) (WL_made (k := 26) (s := t11.text) (nu := 0) (a := t1.pos) rfl rfl (ent_kd2 (K3 Z1 Z0 Z0)) fun q107 => Av (ptr q107) (Nr (At_blockR (At_thenR ?_)))))))))))))))))
     try simp only [nr] at H
     exact At_ret1 results87 (fin_node H (K3 Z0 Z0 Z0) E0)
   try simp only [nr, hb102] at H
   refine Ta true 44 (Mv (ptr q10) (Ta true 44 (Nc q10 0 (Ta true 44 (Fa q10 0 fa122_0 (Ta true 44 (Fa q10 0 fa39_0 (Ta true 44 (Lo q10 0 (Iv k94) isAgg3 Z0 rfl (Ta true 44 (Bo (Iv k94) (Iv 30) (.bool (k94 != 30)) eqg_int (binOp_neq _ _ _ _) (Pk true (Nt ?_)))))))))))))
   cases hb108 : (k94 != 30)
   rotate_left 1
   · try simp only [nr, hb108] at H
     refine Tr (Mv (ptr pb) ?_)
     exact WL_fail call89 rfl c_fail H (K2 Z2 Z2) (fun _ _ h => ⟨rfl, h⟩) rfl (.tail D2)
   try simp only [nr, hb108] at H
   refine Fx (Mv (Tx t11.text) (Mv (Iv t1.pos) (Mv (ptr q10) (Mv (ptr pb) (Cn call87 (hg (.expr) _ _ _ _) H (K2 Z2 Z2) (.tail D2) fun x109 ts110 q111 H => Bl 118 [ptr q10, ptr q111] (bs120_2 _ _ rfl rfl ) fun b112 => WL.ent (closeN (K2 Z4 Z4)) (WL_made (k := 26) (s := t11.text) (nu := 0) (a := t1.pos) rfl rfl (ent_kd2 (K3 Z1 Z0 Z0)) fun q113 => Av (ptr q113) (Nr (At_blockR (At_thenR ?_)))))))))
   try simp only [nr] at H
   exact At_ret1 results87 (fin_node H (K3 Z0 Z0 Z0) E0)
 try simp only [nr, hb21] at H
 refine WC_false rfl (Sr (Mv (ptr pb) (Cv call134 (c_take [45, 61]) H (K2 Z0 Z0) (.tail D1) fun b22 ts23 H => Av (.bool b22) (Nt ?_))))
 cases hb25 : (b22)
 rotate_left 1
 · try simp only [nr, hb25] at H
   refine WC_true rfl (WC_skip (At_then (WC_true rfl (Sz (Mv (ptr q10) (Nc q10 0 (Fa q10 0 fa122_0 (Fa q10 0 fa39_0 ?_))))))))
   obtain ⟨k74, s74, n74, a74, l74⟩ := x8
   try simp only [nr] at H
   refine WL.openN Z2 fun v75 => Lo q10 0 (Iv k74) isAgg3 Z0 rfl (Bo (Iv k74) (Iv 17) (.bool (k74 != 17)) eqg_int (binOp_neq _ _ _ _) (Mv (.bool (k74 != 17)) ?_))
   cases hb76 : (k74 != 17)
   · try simp only [nr, hb76] at H
     refine Pa false 36 (Pa false 36 (Pa false 36 (Pa false 36 (Pa false 36 (Pa false 36 (Pk false (Mv (.bool false) (Pa false 44 (Pa false 44 (Pa false 44 (Pa false 44 (Pa false 44 (Pa false 44 (Pk false (Nt (Fx (Mv (Tx t11.text) (Mv (Iv t1.pos) (Mv (ptr q10) (Mv (ptr pb) (Cn call87 (hg (.expr) _ _ _ _) H (K2 Z2 Z2) (.tail D2) fun x77 ts78 q79 H => Bl 118 [ptr q10, ptr q79] (bs120_2 _ _ rfl rfl ) fun b80 => WL.ent (closeN (K2 Z4 Z4)) (WL_made (k := 26) (s := t11.text) (nu := 0) (a := t1.pos) rfl rfl (ent_kd2 (K3 Z1 Z0 Z0)) fun q81 => Av (ptr q81) (Nr (At_blockR (At_thenR ?_)))))))))))))))))))))))))
     try simp only [nr] at H
     exact At_ret1 results87 (fin_node H (K3 Z0 Z0 Z0) E0)
   try simp only [nr, hb76] at H
   refine Ta true 36 (Mv (ptr q10) (Ta true 36 (Nc q10 0 (Ta true 36 (Fa q10 0 fa122_0 (Ta true 36 (Fa q10 0 fa39_0 (Ta true 36 (Lo q10 0 (Iv k74) isAgg3 Z0 rfl (Ta true 36 (Bo (Iv k74) (Iv 29) (.bool (k74 != 29)) eqg_int (binOp_neq _ _ _ _) (Pk true (Mv (.bool (k74 != 29)) ?_)))))))))))))
   cases hb82 : (k74 != 29)
   · try simp only [nr, hb82] at H
     refine Pa false 44 (Pa false 44 (Pa false 44 (Pa false 44 (Pa false 44 (Pa false 44 (Pk false (Nt (Fx (Mv (Tx t11.text) (Mv (Iv t1.pos) (Mv (ptr q10) (Mv (ptr pb) (Cn call87 (hg (.expr) _ _ _ _) H (K2 Z2 Z2) (.tail D2) fun x83 ts84 q85 H => Bl 118 [ptr q10, ptr q85] (bs120_2 _ _ rfl rfl ) fun b86 => WL.ent (closeN (K2 Z4 Z4)) (WL_made (k := 26) (s := t11.text) (nu := 0) (a := t1.pos) rfl rfl (ent_kd2 (K3 Z1 Z0 Z0)) fun q87 => Av (ptr q87) (Nr (At_blockR (At_thenR ?_)))))))))))))))))
     try simp only [nr] at H
     exact At_ret1 results87 (fin_node H (K3 Z0 Z0 Z0) E0)
   try simp only [nr, hb82] at H
   refine Ta true 44 (Mv (ptr q10) (Ta true 44 (Nc q10 0 (Ta true 44 (Fa q10 0 fa122_0 (Ta true 44 (Fa q10 0 fa39_0 (Ta true 44 (Lo q10 0 (Iv k74) isAgg3 Z0 rfl (Ta true 44 (Bo (Iv k74) (Iv 30) (.bool (k74 != 30)) eqg_int (binOp_neq _ _ _ _) (Pk true (Nt ?_)))))))))))))
   cases hb88 : (k74 != 30)
   rotate_left 1
   · try simp only [nr, hb88] at H
     refine Tr (Mv (ptr pb) ?_)
     exact WL_fail call89 rfl c_fail H (K2 Z2 Z2) (fun _ _ h => ⟨rfl, h⟩) rfl (.tail D2)
   try simp only [nr, hb88] at H
   refine Fx (Mv (Tx t11.text) (Mv (Iv t1.pos) (Mv (ptr q10) (Mv (ptr pb) (Cn call87 (hg (.expr) _ _ _ _) H (K2 Z2 Z2) (.tail D2) fun x89 ts90 q91 H => Bl 118 [ptr q10, ptr q91] (bs120_2 _ _ rfl rfl ) fun b92 => WL.ent (closeN (K2 Z4 Z4)) (WL_made (k := 26) (s := t11.text) (nu := 0) (a := t1.pos) rfl rfl (ent_kd2 (K3 Z1 Z0 Z0)) fun q93 => Av (ptr q93) (Nr (At_blockR (At_thenR ?_)))))))))
   try simp only [nr] at H
   exact At_ret1 results87 (fin_node H (K3 Z0 Z0 Z0) E0)
 try simp only [nr, hb25] at H
 refine WC_false rfl (Sr (Mv (ptr pb) (Cv call134 (c_take [42, 61]) H (K2 Z0 Z0) (.tail D1) fun b26 ts27 H => Av (.bool b26) (Nt ?_))))
 cases hb29 : (b26)
 rotate_left 1
 · try simp only [nr, hb29] at H
   refine WC_true rfl (WC_skip (At_then (WC_true rfl (Sz (Mv (ptr q10) (Nc q10 0 (Fa q10 0 fa122_0 (Fa q10 0 fa39_0 ?_))))))))
   obtain ⟨k54, s54, n54, a54, l54⟩ := x8
   try simp only [nr] at H
   refine WL.openN Z2 fun v55 => Lo q10 0 (Iv k54) isAgg3 Z0 rfl (Bo (Iv k54) (Iv 17) (.bool (k54 != 17)) eqg_int (binOp_neq _ _ _ _) (Mv (.bool (k54 != 17)) ?_))
   cases hb56 : (k54 != 17)
   · try simp only [nr, hb56] at H
     refine Pa false 36 (Pa false 36 (Pa false 36 (Pa false 36 (Pa false 36 (Pa false 36 (Pk false (Mv (.bool false) (Pa false 44 (Pa false 44 (Pa false 44 (Pa false 44 (Pa false 44 (Pa false 44 (Pk false (Nt (Fx (Mv (Tx t11.text) (Mv (Iv t1.pos) (Mv (ptr q10) (Mv (ptr pb) (Cn call87 (hg (.expr) _ _ _ _) H (K2 Z2 Z2) (.tail D2) fun x57 ts58 q59 H => Bl 118 [ptr q10, ptr q59] (bs120_2 _ _ rfl rfl ) fun b60 => WL.ent (closeN (K2 Z4 Z4)) (WL_made (k := 26) (s := t11.text) (nu := 0) (a := t1.pos) rfl rfl (ent_kd2 (K3 Z1 Z0 Z0)) fun q61 => Av (ptr q61) (Nr (At_blockR (At_thenR ?_)))))))))))))))))))))))))
     try simp only [nr] at H
     exact At_ret1 results87 (fin_node H (K3 Z0 Z0 Z0) E0)
   try simp only [nr, hb56] at H
   refine Ta true 36 (Mv (ptr q10) (Ta true 36 (Nc q10 0 (Ta true 36 (Fa q10 0 fa122_0 (Ta true 36 (Fa q10 0 fa39_0 (Ta true 36 (Lo q10 0 (Iv k54) isAgg3 Z0 rfl (Ta true 36 (Bo (Iv k54) (Iv 29) (.bool (k54 != 29)) eqg_int (binOp_neq _ _ _ _) (Pk true (Mv (.bool (k54 != 29)) ?_)))))))))))))
   cases hb62 : (k54 != 29)
   · try simp only [nr, hb62] at H
     refine Pa false 44 (Pa false 44 (Pa false 44 (Pa false 44 (Pa false 44 (Pa false 44 (Pk false (Nt (Fx (Mv (Tx t11.text) (Mv (Iv t1.pos) (Mv (ptr q10) (Mv (ptr pb) (Cn call87 (hg (.expr) _ _ _ _) H (K2 Z2 Z2) (.tail D2) fun x63 ts64 q65 H => Bl 118 [ptr q10, ptr q65] (bs120_2 _ _ rfl rfl ) fun b66 => WL.ent (closeN (K2 Z4 Z4)) (WL_made (k := 26) (s := t11.text) (nu := 0) (a := t1.pos) rfl rfl (ent_kd2 (K3 Z1 Z0 Z0)) fun q67 => Av (ptr q67) (Nr (At_blockR (At_thenR ?_)))))))))))))))))
     try simp only [nr] at H
     exact At_ret1 results87 (fin_node H (K3 Z0 Z0 Z0) E0)
   try simp only [nr, hb62] at H
   refine Ta true 44 (Mv (ptr q10) (Ta true 44 (Nc q10 0 (Ta true 44 (Fa q10 0 fa122_0 (Ta true 44 (Fa q10 0 fa39_0 (Ta true 44 (Lo q10 0 (Iv k54) isAgg3 Z0 rfl (Ta true 44 (Bo (Iv k54) (Iv 30) (.bool (k54 != 30)) eqg_int (binOp_neq _ _ _ _) (Pk true (Nt ?_)))))))))))))
   cases hb68 : (k54 != 30)
   rotate_left 1
   · try simp only [nr, hb68] at H
     refine Tr (Mv (ptr pb) ?_)
     exact WL_fail call89 rfl c_fail H (K2 Z2 Z2) (fun _ _ h => ⟨rfl, h⟩) rfl (.tail D2)
   try simp only [nr, hb68] at H
   refine Fx (Mv (Tx t11.text) (Mv (Iv t1.pos) (Mv (ptr q10) (Mv (ptr pb) (Cn call87 (hg (.expr) _ _ _ _) H (K2 Z2 Z2) (.tail D2) fun x69 ts70 q71 H => Bl 118 [ptr q10, ptr q71] (bs120_2 _ _ rfl rfl ) fun b72 => WL.ent (closeN (K2 Z4 Z4)) (WL_made (k := 26) (s := t11.text) (nu := 0) (a := t1.pos) rfl rfl (ent_kd2 (K3 Z1 Z0 Z0)) fun q73 => Av (ptr q73) (Nr (At_blockR (At_thenR ?_)))))))))
   try simp only [nr] at H
   exact At_ret1 results87 (fin_node H (K3 Z0 Z0 Z0) E0)
 try simp only [nr, hb29] at H
 refine WC_false rfl (WC_region (Mv (ptr pb) (Cv call134 (c_take [37, 61]) H (K2 Z0 Z0) (.tail D1) fun b30 ts31 H => Av (.bool b30) (Nt ?_))))
 cases hb33 : (b30)
 · try simp only [nr, hb33] at H
   refine WC_false rfl (WC_skip (At_blockN (At_then (Sr (Mv (ptr q10) (Av (ptr q10) (Nr ?_)))))))
   try simp only [nr] at H
   exact At_ret1 results87 (fin_node H (K3 Z2 Z0 Z0) E0)
 try simp only [nr, hb33] at H
 refine WC_true rfl (Sz (Mv (ptr q10) (Nc q10 0 (Fa q10 0 fa122_0 (Fa q10 0 fa39_0 ?_)))))
 obtain ⟨k34, s34, n34, a34, l34⟩ := x8
 try simp only [nr] at H
 refine WL.openN Z2 fun v35 => Lo q10 0 (Iv k34) isAgg3 Z0 rfl (Bo (Iv k34) (Iv 17) (.bool (k34 != 17)) eqg_int (binOp_neq _ _ _ _) (Mv (.bool (k34 != 17)) ?_))
 cases hb36 : (k34 != 17)
 · try simp only [nr, hb36] at H
   refine Pa false 36 (Pa false 36 (Pa false 36 (Pa false 36 (Pa false 36 (Pa false 36 (Pk false (Mv (.bool false) (Pa false 44 (Pa false 44 (Pa false 44 (Pa false 44 (Pa false 44 (Pa false 44 (Pk false (Nt (Fx (Mv (Tx t11.text) (Mv (Iv t1.pos) (Mv (ptr q10) (Mv (ptr pb) (Cn call87 (hg (.expr) _ _ _ _) H (K2 Z2 Z2) (.tail D2) fun x37 ts38 q39 H => Bl 118 [ptr q10, ptr q39] (bs120_2 _ _ rfl rfl ) fun b40 => WL.ent (closeN (K2 Z4 Z4)) (WL_made (k := 26) (s := t11.text) (nu := 0) (a := t1.pos) rfl rfl (ent_kd2 (K3 Z1 Z0 Z0)) fun q41 => Av (ptr q41) (Nr (At_blockR (At_thenR ?_)))))))))))))))))))))))))
   try simp only [nr] at H
   exact At_ret1 results87 (fin_node H (K3 Z0 Z0 Z0) E0)
 try simp only [nr, hb36] at H
 refine Ta true 36 (Mv (ptr q10) (Ta true 36 (Nc q10 0 (Ta true 36 (Fa q10 0 fa122_0 (Ta true 36 (Fa q10 0 fa39_0 (Ta true 36 (Lo q10 0 (Iv k34) isAgg3 Z0 rfl (Ta true 36 (Bo (Iv k34) (Iv 29) (.bool (k34 != 29)) eqg_int (binOp_neq _ _ _ _) (Pk true (Mv (.bool (k34 != 29)) ?_)))))))))))))
 cases hb42 : (k34 != 29)
 · try simp only [nr, hb42] at H
   refine Pa false 44 (Pa false 44 (Pa false 44 (Pa false 44 (Pa false 44 (Pa false 44 (Pk false (Nt (Fx (Mv (Tx t11.text) (Mv (Iv t1.pos) (Mv (ptr q10) (Mv (ptr pb) (Cn call87 (hg (.expr) _ _ _ _) H (K2 Z2 Z2) (.tail D2) fun x43 ts44 q45 H => Bl 118 [ptr q10, ptr q45] (bs120_2 _ _ rfl rfl ) fun b46 => WL.ent (closeN (K2 Z4 Z4)) (WL_made (k := 26) (s := t11.text) (nu := 0) (a := t1.pos) rfl rfl (ent_kd2 (K3 Z1 Z0 Z0)) fun q47 => Av (ptr q47) (Nr (At_blockR (At_thenR ?_)))))))))))))))))
   try simp only [nr] at H
   exact At_ret1 results87 (fin_node H (K3 Z0 Z0 Z0) E0)
 try simp only [nr, hb42] at H
 refine Ta true 44 (Mv (ptr q10) (Ta true 44 (Nc q10 0 (Ta true 44 (Fa q10 0 fa122_0 (Ta true 44 (Fa q10 0 fa39_0 (Ta true 44 (Lo q10 0 (Iv k34) isAgg3 Z0 rfl (Ta true 44 (Bo (Iv k34) (Iv 30) (.bool (k34 != 30)) eqg_int (binOp_neq _ _ _ _) (Pk true (Nt ?_)))))))))))))
 cases hb48 : (k34 != 30)
 rotate_left 1
 · try simp only [nr, hb48] at H
   refine Tr (Mv (ptr pb) ?_)
   exact WL_fail call89 rfl c_fail H (K2 Z2 Z2) (fun _ _ h => ⟨rfl, h⟩) rfl (.tail D2)
 try simp only [nr, hb48] at H
 refine Fx (Mv (Tx t11.text) (Mv (Iv t1.pos) (Mv (ptr q10) (Mv (ptr pb) (Cn call87 (hg (.expr) _ _ _ _) H (K2 Z2 Z2) (.tail D2) fun x49 ts50 q51 H => Bl 118 [ptr q10, ptr q51] (bs120_2 _ _ rfl rfl ) fun b52 => WL.ent (closeN (K2 Z4 Z4)) (WL_made (k := 26) (s := t11.text) (nu := 0) (a := t1.pos) rfl rfl (ent_kd2 (K3 Z1 Z0 Z0)) fun q53 => Av (ptr q53) (Nr (At_blockR (At_thenR ?_)))))))))
 try simp only [nr] at H
 exact At_ret1 results87 (fin_node H (K3 Z0 Z0 Z0) E0)
theorem n_typed (hK : K ≤ 274877906944) (hg : CG g) : ConM 88 [ptr pb] pb tb L cap [] (typedM K g) resN := by
 intro ts r H F
 show ∀ w, Sat (PO pb tb L cap ts :: TB tb L :: F) w → _
 replace H := bpureH H
 unfold typedM at H
 try simp only [nr] at H
 refine calls_of_WC (fn := f88) func88 rfl rfl (Sr (Av (.pointer none) (Ny (Mv (ptr pb) (Cv call85 (c_now) H (K2 Z0 Z0) (.tail E0) fun t1 ts2 H => WL_rd (rd_field (u := .agg #[Iv t1.kind, Tx t1.text, Iv t1.pos, Iv t1.en]) (v := Iv t1.pos) rfl (fv47_2 _ _ _ _ )) (Av (Iv t1.pos) (Ny (Mv (ptr pb) (Cv call134 (c_take [124]) H (K2 Z0 Z0) (.tail E0) fun b4 ts5 H => Ny (Mv (ptr pb) (Cn call144 (hg (.rows) _ _ _ _) H (K2 Z0 Z0) (.tail E0) fun x7 ts8 q9 H => Av (ptr q9) (Nz (Mv (ptr pb) (Cv call132 (c_is [124]) H (K2 Z1 Z1) (.tail D1) fun b10 ts11 H => WL_rd (rd_not (b := b10) rfl) (Nt ?_)))))))))))))))
 cases hb13 : (!b10)
 rotate_left 1
 · try simp only [nr, hb13] at H
   refine Ts (Mv (ptr q9) (Av (ptr q9) (Nr (At_thenR ?_))))
   try simp only [nr] at H
   exact At_ret1 results88 (fin_node H (K3 Z2 Z0 Z0) E0)
 try simp only [nr, hb13] at H
 refine Fx (Mv (Iv t1.pos) (Mv (ptr q9) (Bl 118 [ptr q9] (bs120_1 _ rfl ) fun b14 => WL_made (k := 87) (s := []) (nu := 0) (a := t1.pos) rfl rfl (ent_kd1 (K2 Z0 Z2)) fun q15 => Av (ptr q15) (Nt (WC_seq (WC_block (WC_loopM (G := Nat × List PT) (fun x => x.2.length + 2 * x.1 ≤ 2 * K + 2) (fun x => unionM g x.1 x.2) (fun x => [(0, ptr pb), (2, .pointer none), (5, ptr q15)]) (fun x ts => TN (PT.node 87 [] 0 t1.pos x.2) q15 :: PO pb tb L cap ts :: TB tb L :: F) (fun x => x.1) (K, [x7]) H (show [x7].length + 2 * K ≤ 2 * K + 2 by (try simp) <;> omega) ⟨rfl, rfl, rfl, trivial⟩ (E3 Z0 Z0 Z0) ?_)))))))
 rintro ⟨k, acc16⟩ ts17 σ hpre H
 replace hpre : acc16.length + 2 * k ≤ 2 * K + 2 := hpre
 change (unionM g k acc16 >>= _) _ = _ at H
 rcases k with _ | k
 · exact oofK H
 rw [unionM] at H
 try simp only [nr] at H
 show WC prog _ _ _ (upds σ [(0, ptr pb), (2, .pointer none), (5, ptr q15)]) _ (TN (PT.node 87 [] 0 t1.pos acc16) q15 :: PO pb tb L cap ts17 :: TB tb L :: F)
 refine Sz (Mv (ptr pb) (Cv call134 (c_take [124]) H (K2 Z1 Z1) (.tail D1) fun b18 ts19 H => Nt ?_))
 cases hb21 : (b18)
 · try simp only [nr, hb21] at H
   refine WC_false rfl (WC_exit (At_thenX (At_loopX (At_blockX (At_then (Sr (Mv (ptr q15) (Av (ptr q15) (Nr ?_)))))))))
   try simp only [nr] at H
   exact At_ret1 results88 (fin_node H (K3 Z2 Z0 Z0) E0)
 try simp only [nr, hb21] at H
 refine WC_true rfl (WC_skip (At_then (WC_block (WC.openN Z2 fun v22 => WC_draw [9, 10, 11] [Cl q15 122 [Iv 87, Tx [], Iv 0, .slice none 0 0, Iv t1.pos, slV v22]] mixed (Dt 0 rfl rfl (Q0 (K1 Z0)) (Rm (ptr q15) rfl) (Dt 1 rfl rfl (Q0 (K1 Z0)) (Rm (ptr q15) rfl) (Dt 2 rfl rfl (Q0 (K1 Z0)) (Rn q15 0 rfl) (Dt 3 rfl rfl (Q0 (K1 Z0)) (Rf q15 0 fa122_1 rfl) (Dt 4 rfl rfl (Q0 (K1 Z0)) (Rl q15 5 (slV v22) isAgg120 rfl Z0 rfl) (Dt 5 rfl rfl (Q0 (K1 Z0)) (Rm (ptr pb) rfl) (WD_callN 6 (by kernel_rfl) rfl rfl rfl (run_call call144 (args_map rfl)) (hg (.rows) _ _ _ _) H (K2 Z2 Z2) (fun _ _ h => ⟨rfl, h⟩) rfl (.tail D2) (Q0 (K1 Z0)) fun x23 ts24 q25 H => WD_ef 7 (by kernel_rfl) rfl rfl rfl (ef_buildSlice (E := 118) (vs := [(0, ptr q25)]) (l := [ptr q25]) rfl (bs120_1 _ rfl )) (fun _ _ => Q0 (K1 Z4)) fun b26 => WD_ef 8 (by kernel_rfl) rfl rfl rfl (ef_appendKid rfl rfl (K3 (.succ Z4) Z0 Z0) (by (try simp) <;> omega)) (fun _ _ => Q0 (K1 Z3)) fun v27 => WD_rd 9 (by kernel_rfl) rfl rfl rfl (Rn q15 0 rfl) (late_vac (i := 9) (by kernel_rfl) (by decide)) (WD_rd 10 (by kernel_rfl) rfl rfl rfl (Rf q15 0 fa122_1 rfl) (late_vac (i := 10) (by kernel_rfl) (by decide)) (WD_ef0 11 (by kernel_rfl) rfl rfl rfl (ef_store (b := q15) (o := 5) (v := slV v27) (vs := [slV v27]) sizeOf120 rfl rfl rfl rfl rfl Z3 (.skip (.skip (.skip (.skip (.skip (.put .done))))))) (late_vac (i := 11) (by kernel_rfl) (by decide)) ?_)))))))))))))
 refine WD_done (by kernel_rfl) ?_ _
 refine At_blockN (At.ent (closeN (K2 Z0 Z0)) ?_)
 exact At_againM (k, (acc16 ++ [x23])) _ H (show (acc16 ++ [x23]).length + 2 * k ≤ 2 * K + 2 by (try simp) <;> omega) ⟨rfl, rfl, rfl, trivial⟩ (E3 Z0 Z0 Z0) (Nat.lt_succ_self _)
theorem n_block (hK : K ≤ 274877906944) (hg : CG g) : ConM 133 [ptr pb] pb tb L cap [] (blockM K g) resN := by
 intro ts r H F
 show ∀ w, Sat (PO pb tb L cap ts :: TB tb L :: F) w → _
 replace H := bpureH H
 unfold blockM at H
 try simp only [nr] at H
 refine calls_of_WC (fn := f133) func133 rfl rfl (Sr (Av (.pointer none) (Ny (Mv (ptr pb) (Cv call85 (c_now) H (K2 Z0 Z0) (.tail E0) fun t1 ts2 H => WL_rd (rd_field (u := .agg #[Iv t1.kind, Tx t1.text, Iv t1.pos, Iv t1.en]) (v := Iv t1.pos) rfl (fv47_2 _ _ _ _ )) (WL_made (k := 63) (s := []) (nu := 0) (a := t1.pos) rfl rfl (ent_kd0) fun q4 => Av (ptr q4) (Ny (Mv (ptr pb) (Cv call139 (c_must [123]) H (K2 Z1 Z1) (.tail D1) fun u5 ts6 H => Nt (WC_seq (WC_block (WC_loopM (G := Nat × List PT) (fun x => x.2.length + 2 * x.1 ≤ 2 * K + 2) (fun x => stmtsM g x.1 x.2) (fun x => [(0, ptr pb), (2, .pointer none), (3, ptr q4)]) (fun x ts => PO pb tb L cap ts :: TB tb L :: TN (PT.node 63 [] 0 t1.pos x.2) q4 :: F) (fun x => x.1) (K, []) H (show [].length + 2 * K ≤ 2 * K + 2 by (try simp) <;> omega) ⟨rfl, rfl, rfl, trivial⟩ (E3 Z0 Z0 Z0) ?_))))))))))))
 rintro ⟨k, acc8⟩ ts9 σ hpre H
 replace hpre : acc8.length + 2 * k ≤ 2 * K + 2 := hpre
 change (stmtsM g k acc8 >>= _) _ = _ at H
 rcases k with _ | k
 · exact oofK H
 rw [stmtsM] at H
 try simp only [nr] at H
 show WC prog _ _ _ (upds σ [(0, ptr pb), (2, .pointer none), (3, ptr q4)]) _ (PO pb tb L cap ts9 :: TB tb L :: TN (PT.node 63 [] 0 t1.pos acc8) q4 :: F)
 refine Sz (Mv (ptr pb) (Cv call132 (c_is [125]) H (K2 Z0 Z0) (.tail D1) fun b10 ts11 H => WL_rd (rd_not (b := b10) rfl) (Nt ?_)))
 cases hb13 : (!b10)
 · try simp only [nr, hb13] at H
   refine WC_false rfl (WC_exit (At_thenX (At_loopX (At_blockX (At_then (Sr (Mv (ptr pb) (Cv call139 (c_must [125]) H (K2 Z0 Z0) (.tail D1) fun u14 ts15 H => Ny (Mv (ptr q4) (Av (ptr q4) (Nr ?_)))))))))))
   try simp only [nr] at H
   exact At_ret1 results133 (fin_node H (K3 Z2 Z0 Z0) E0)
 try simp only [nr, hb13] at H
 refine WC_true rfl (WC_skip (At_then (WC_block (WC.openN Z2 fun v17 => WC_draw [9, 10, 11] [Cl q4 122 [Iv 63, Tx [], Iv 0, .slice none 0 0, Iv t1.pos, slV v17]] mixed (Dt 0 rfl rfl (Q0 (K1 Z0)) (Rm (ptr q4) rfl) (Dt 1 rfl rfl (Q0 (K1 Z0)) (Rm (ptr q4) rfl) (Dt 2 rfl rfl (Q0 (K1 Z0)) (Rn q4 0 rfl) (Dt 3 rfl rfl (Q0 (K1 Z0)) (Rf q4 0 fa122_1 rfl) (Dt 4 rfl rfl (Q0 (K1 Z0)) (Rl q4 5 (slV v17) isAgg120 rfl Z0 rfl) (Dt 5 rfl rfl (Q0 (K1 Z0)) (Rm (ptr pb) rfl) (WD_callN 6 (by kernel_rfl) rfl rfl rfl (run_call call86 (args_map rfl)) (hg (.statement) _ _ _ _) H (K2 Z2 Z2) (fun _ _ h => ⟨rfl, h⟩) rfl (.tail D2) (Q0 (K1 Z0)) fun x18 ts19 q20 H => WD_ef 7 (by kernel_rfl) rfl rfl rfl (ef_buildSlice (E := 118) (vs := [(0, ptr q20)]) (l := [ptr q20]) rfl (bs120_1 _ rfl )) (fun _ _ => Q0 (K1 Z4)) fun b21 => WD_ef 8 (by kernel_rfl) rfl rfl rfl (ef_appendKid rfl rfl (K3 (.succ Z4) Z0 Z0) (by (try simp) <;> omega)) (fun _ _ => Q0 (K1 Z3)) fun v22 => WD_rd 9 (by kernel_rfl) rfl rfl rfl (Rn q4 0 rfl) (late_vac (i := 9) (by kernel_rfl) (by decide)) (WD_rd 10 (by kernel_rfl) rfl rfl rfl (Rf q4 0 fa122_1 rfl) (late_vac (i := 10) (by kernel_rfl) (by decide)) (WD_ef0 11 (by kernel_rfl) rfl rfl rfl (ef_store (b := q4) (o := 5) (v := slV v22) (vs := [slV v22]) sizeOf120 rfl rfl rfl rfl rfl Z3 (.skip (.skip (.skip (.skip (.skip (.put .done))))))) (late_vac (i := 11) (by kernel_rfl) (by decide)) ?_)))))))))))))
 refine WD_done (by kernel_rfl) ?_ _
 refine At_blockN (At.ent (closeN (K2 Z0 Z0)) ?_)
 exact At_againM (k, (acc8 ++ [x18])) _ H (show (acc8 ++ [x18]).length + 2 * k ≤ 2 * K + 2 by (try simp) <;> omega) ⟨rfl, rfl, rfl, trivial⟩ (E3 Z1 Z1 Z0) (Nat.lt_succ_self _)
end
end Go.Proofs

namespace Go.Proofs
open Go.Px Tryz
section
variable {pb tb cap K : Nat} {L : List Tk} {g : NT → M PT}
theorem n_branch (hg : CG g) : ConM 135 [ptr pb] pb tb L cap [] (branchM g) resN := by
 intro ts r H F
 show ∀ w, Sat (PO pb tb L cap ts :: TB tb L :: F) w → _
 replace H := bpureH H
 unfold branchM at H
 try simp only [nr] at H
 refine calls_of_WC (fn := f135) func135 rfl rfl (Sr (Av (.pointer none) (Ny (Mv (ptr pb) (Cv call85 (c_now) H (K2 Z0 Z0) (.tail E0) fun t1 ts2 H => WL_rd (rd_field (u := .agg #[Iv t1.kind, Tx t1.text, Iv t1.pos, Iv t1.en]) (v := Iv t1.pos) rfl (fv47_2 _ _ _ _ )) (Av (Iv t1.pos) (Ny (Mv (ptr pb) (Cv call139 (c_must [105, 102]) H (K2 Z0 Z0) (.tail E0) fun u4 ts5 H => Ny (Mv (ptr pb) (Cn call136 (hg (.round) _ _ _ _) H (K2 Z0 Z0) (.tail E0) fun x7 ts8 q9 H => Av (ptr q9) (Ny (Mv (ptr pb) (Cn call133 (hg (.block) _ _ _ _) H (K2 Z1 Z1) (.tail D1) fun x10 ts11 q12 H => Av (ptr q12) (Ny (Mv (ptr pb) (Cn call188 (c_none) H (K2 Z1 Z1) (.tail D2) fun x13 ts14 q15 H => Av (ptr q15) (Nz (Mv (ptr pb) (Cv call134 (c_take [101, 108, 115, 101]) H (K2 Z1 Z1) (.tail D3) fun b16 ts17 H => Nt ?_))))))))))))))))))))
 cases hb19 : (b16)
 · try simp only [nr, hb19] at H
   refine Fx (Mv (Iv t1.pos) (Mv (ptr q9) (Mv (ptr q12) (Mv (ptr q15) (Bl 118 [ptr q9, ptr q12, ptr q15] (bs120_3 _ _ _ rfl rfl rfl ) fun b20 => WL_made (k := 53) (s := []) (nu := 0) (a := t1.pos) rfl rfl (ent_kd3 (K4 Z0 Z4 Z3 Z2)) fun q21 => Av (ptr q21) (Nr ?_))))))
   try simp only [nr] at H
   exact At_ret1 results135 (fin_node H (K3 Z0 Z0 Z0) E0)
 try simp only [nr, hb19] at H
 refine Ts (Mv (ptr pb) (Cv call132 (c_is [105, 102]) H (K2 Z0 Z0) (.tail D3) fun b22 ts23 H => Nt ?_))
 cases hb25 : (b22)
 · try simp only [nr, hb25] at H
   refine WC_false rfl (WC_region (Mv (ptr pb) (Cn call133 (hg (.block) _ _ _ _) H (K2 Z0 Z0) (.tail D3) fun x26 ts27 q28 H => Av (ptr q28) (Ny (Mv (Iv t1.pos) (Mv (ptr q9) (Mv (ptr q12) (Mv (ptr q28) (Bl 118 [ptr q9, ptr q12, ptr q28] (bs120_3 _ _ _ rfl rfl rfl ) fun b29 => WL_made (k := 53) (s := []) (nu := 0) (a := t1.pos) rfl rfl (ent_kd3 (K4 Z0 (.succ Z4) Z4 Z0)) fun q30 => Av (ptr q30) (Nr ?_))))))))))
   try simp only [nr] at H
   exact At_ret1 results135 (fin_node H (K3 Z0 Z0 Z0) D1)
 try simp only [nr, hb25] at H
 refine Tr (Mv (ptr pb) (Cn call135 (hg (.branch) _ _ _ _) H (K2 Z0 Z0) (.tail D3) fun x31 ts32 q33 H => Av (ptr q33) (Ny (Mv (Iv t1.pos) (Mv (ptr q9) (Mv (ptr q12) (Mv (ptr q33) (Bl 118 [ptr q9, ptr q12, ptr q33] (bs120_3 _ _ _ rfl rfl rfl ) fun b34 => WL_made (k := 53) (s := []) (nu := 0) (a := t1.pos) rfl rfl (ent_kd3 (K4 Z0 (.succ Z4) Z4 Z0)) fun q35 => Av (ptr q35) (Nr ?_)))))))))
 try simp only [nr] at H
 exact At_ret1 results135 (fin_node H (K3 Z0 Z0 Z0) D1)
theorem n_round (hg : CG g) : ConM 136 [ptr pb] pb tb L cap [] (roundM g) resN := by
 intro ts r H F
 show ∀ w, Sat (PO pb tb L cap ts :: TB tb L :: F) w → _
 replace H := bpureH H
 unfold roundM at H
 try simp only [nr] at H
 refine calls_of_WC (fn := f136) func136 rfl rfl (Sr (Av (.pointer none) (Ny (Mv (ptr pb) (Cv call139 (c_must [40]) H (K2 Z0 Z0) (.tail E0) fun u1 ts2 H => Ny (Mv (ptr pb) (Cn call87 (hg (.expr) _ _ _ _) H (K2 Z0 Z0) (.tail E0) fun x4 ts5 q6 H => Av (ptr q6) (Ny (Mv (ptr pb) (Cv call139 (c_must [41]) H (K2 Z1 Z1) (.tail D1) fun u7 ts8 H => Ny (Mv (ptr q6) (Av (ptr q6) (Nr ?_)))))))))))))
 try simp only [nr] at H
 exact At_ret1 results136 (fin_node H (K3 Z2 Z0 Z0) E0)
theorem n_cond (hg : CG g) : ConM 143 [ptr pb] pb tb L cap [] (condM g) resN := by
 intro ts r H F
 show ∀ w, Sat (PO pb tb L cap ts :: TB tb L :: F) w → _
 replace H := bpureH H
 unfold condM at H
 try simp only [nr] at H
 refine calls_of_WC (fn := f143) func143 rfl rfl (Sr (Av (.pointer none) (Ny (Mv (ptr pb) (Cv call85 (c_now) H (K2 Z0 Z0) (.tail E0) fun t1 ts2 H => WL_rd (rd_field (u := .agg #[Iv t1.kind, Tx t1.text, Iv t1.pos, Iv t1.en]) (v := Iv t1.pos) rfl (fv47_2 _ _ _ _ )) (Av (Iv t1.pos) (Ny (Mv (ptr pb) (Cn call193 (hg (.level 0) _ _ _ _) H (K2 Z0 Z0) (.tail E0) fun x4 ts5 q6 H => Av (ptr q6) (Nz (Mv (ptr pb) (Cv call134 (c_take [63]) H (K2 Z1 Z1) (.tail D1) fun b7 ts8 H => WL_rd (rd_not (b := b7) rfl) (Nt ?_)))))))))))))
 cases hb10 : (!b7)
 · try simp only [nr, hb10] at H
   refine Fx (Mv (ptr pb) (Cn call87 (hg (.expr) _ _ _ _) H (K2 Z0 Z0) (.tail D1) fun x11 ts12 q13 H => Av (ptr q13) (Ny (Mv (ptr pb) (Cv call139 (c_must [58]) H (K2 Z1 Z1) (.tail D2) fun u14 ts15 H => Ny (Mv (Iv t1.pos) (Mv (ptr q6) (Mv (ptr q13) (Mv (ptr pb) (Cn call87 (hg (.expr) _ _ _ _) H (K2 Z0 Z0) (.tail D2) fun x17 ts18 q19 H => Bl 118 [ptr q6, ptr q13, ptr q19] (bs120_3 _ _ _ rfl rfl rfl ) fun b20 => WL_made (k := 25) (s := []) (nu := 0) (a := t1.pos) rfl rfl (ent_kd3 (K4 Z0 Z4 Z3 Z0)) fun q21 => Av (ptr q21) (Nr ?_)))))))))))
   try simp only [nr] at H
   exact At_ret1 results143 (fin_node H (K3 Z0 Z0 Z0) E0)
 try simp only [nr, hb10] at H
 refine Ts (Mv (ptr q6) (Av (ptr q6) (Nr (At_thenR ?_))))
 try simp only [nr] at H
 exact At_ret1 results143 (fin_node H (K3 Z2 Z0 Z0) E0)
theorem n_rows (hK : K ≤ 274877906944) (hg : CG g) : ConM 144 [ptr pb] pb tb L cap [] (rowsM K g) resN := by
 intro ts r H F
 show ∀ w, Sat (PO pb tb L cap ts :: TB tb L :: F) w → _
 replace H := bpureH H
 unfold rowsM at H
 try simp only [nr] at H
 refine calls_of_WC (fn := f144) func144 rfl rfl (Sr (Av (.pointer none) (Ny (Mv (ptr pb) (Cv call85 (c_now) H (K2 Z0 Z0) (.tail E0) fun t1 ts2 H => WL_rd (rd_field (u := .agg #[Iv t1.kind, Tx t1.text, Iv t1.pos, Iv t1.en]) (v := Iv t1.pos) rfl (fv47_2 _ _ _ _ )) (Av (Iv t1.pos) (Ny (Mv (ptr pb) (Cn call194 (hg (.plain) _ _ _ _) H (K2 Z0 Z0) (.tail E0) fun x4 ts5 q6 H => Av (ptr q6) (Nt (WC_seq (WC_block (WC_loopM (G := Nat × PT × Nat) (fun x => True) (fun x => rowM t1.pos x.1 x.2.1) (fun x => [(0, ptr pb), (2, .pointer none), (3, Iv t1.pos), (4, ptr x.2.2)]) (fun x ts => TN x.2.1 x.2.2 :: PO pb tb L cap ts :: TB tb L :: F) (fun x => x.1) (K, x4, q6) H trivial ⟨rfl, rfl, rfl, rfl, trivial⟩ (E3 Z0 Z0 Z0) ?_)))))))))))))
 rintro ⟨k, x7, q8⟩ ts9 σ hpre H
 replace hpre : True := hpre
 change (rowM t1.pos k x7 >>= _) _ = _ at H
 rcases k with _ | k
 · exact oofK H
 rw [rowM] at H
 try simp only [nr] at H
 show WC prog _ _ _ (upds σ [(0, ptr pb), (2, .pointer none), (3, Iv t1.pos), (4, ptr q8)]) _ (TN x7 q8 :: PO pb tb L cap ts9 :: TB tb L :: F)
 refine Sz (Mv (ptr pb) (Cv call132 (c_is [91]) H (K2 Z1 Z1) (.tail D1) fun b10 ts11 H => Mv (.bool b10) ?_))
 cases hb13 : (b10)
 · try simp only [nr, hb13] at H
   refine Pa false 12 (Pa false 12 (Pa false 12 (Pk false (Nt (WC_false rfl (WC_exit (At_thenX (At_loopX (At_blockX (At_then (Sr (Mv (ptr q8) (Av (ptr q8) (Nr ?_))))))))))))))
   try simp only [nr] at H
   exact At_ret1 results144 (fin_node H (K3 Z2 Z0 Z0) E0)
 try simp only [nr, hb13] at H
 refine Ta true 12 (Mv (ptr pb) (Ta true 12 (Cv call177 (c_then1) H (K2 Z0 Z0) (.tail D1) fun t14 ts15 H => Ta true 12 (WL_callQ (Δ := []) (v := .bool (saysB t14 [93])) call176 rfl (c_says t14 [93]) .nil (Pk true (Nt ?_))))))
 cases hb17 : (saysB t14 [93])
 · try simp only [nr, hb17] at H
   refine WC_false rfl (WC_exit (At_thenX (At_loopX (At_blockX (At_then (Sr (Mv (ptr q8) (Av (ptr q8) (Nr ?_)))))))))
   try simp only [nr] at H
   exact At_ret1 results144 (fin_node H (K3 Z2 Z0 Z0) E0)
 try simp only [nr, hb17] at H
 refine WC_true rfl (WC_skip (At_then (WC_block (Sr (Mv (ptr pb) (Cv call178 (c_next) H (K2 Z0 Z0) (.tail D1) fun t18 ts19 H => Ny (Mv (ptr pb) (Cv call178 (c_next) H (K2 Z0 Z0) (.tail D1) fun t21 ts22 H => Nt (WC_region (Mv (Iv t1.pos) (Mv (ptr q8) (Bl 118 [ptr q8] (bs120_1 _ rfl ) fun b24 => WL_made (k := 83) (s := []) (nu := 0) (a := t1.pos) rfl rfl (ent_kd1 (K2 Z0 Z2)) fun q25 => Av (ptr q25) (WL_nil (At_blockN ?_))))))))))))))
 exact At_againM (k, (PT.node 83 [] 0 t1.pos [x7]), q25) _ H trivial ⟨rfl, rfl, rfl, rfl, trivial⟩ (E3 Z0 Z0 Z0) (Nat.lt_succ_self _)
theorem n_objectType (hK : K ≤ 274877906944) (hg : CG g) : ConM 187 [ptr pb] pb tb L cap [] (objectTypeM K g) resN := by
 intro ts r H F
 show ∀ w, Sat (PO pb tb L cap ts :: TB tb L :: F) w → _
 replace H := bpureH H
 unfold objectTypeM at H
 try simp only [nr] at H
 refine calls_of_WC (fn := f187) func187 rfl rfl (Sr (Av (.pointer none) (Nt (WC_scope0 0 rfl (Sr (Mv (ptr pb) (Cv call85 (c_now) H (K2 Z0 Z0) (.tail E0) fun t1 ts2 H => WL_rd (rd_field (u := .agg #[Iv t1.kind, Tx t1.text, Iv t1.pos, Iv t1.en]) (v := Iv t1.pos) rfl (fv47_2 _ _ _ _ )) (WL_made (k := 84) (s := []) (nu := 0) (a := t1.pos) rfl rfl (ent_kd0) fun q4 => Av (ptr q4) (Ny (Mv (ptr pb) (Cv call139 (c_must [123]) H (K2 Z1 Z1) (.tail D1) fun u5 ts6 H => Nt (WC_seq (WC_label (At_then (WC_seq (WC_block (WC_loopM (G := Nat × List PT) (fun x => x.2.length + 2 * x.1 ≤ 2 * K + 2) (fun x => piecesM g x.1 x.2) (fun x => [(0, ptr pb), (2, .pointer none), (3, ptr q4)]) (fun x ts => PO pb tb L cap ts :: TB tb L :: TN (PT.node 84 [] 0 t1.pos x.2) q4 :: F) (fun x => x.1) (K, []) H (show [].length + 2 * K ≤ 2 * K + 2 by (try simp) <;> omega) ⟨rfl, rfl, rfl, trivial⟩ (E3 Z0 Z0 Z0) ?_)))))))))))))))))
 rintro ⟨k, acc8⟩ ts9 σ hpre H
 replace hpre : acc8.length + 2 * k ≤ 2 * K + 2 := hpre
 change (piecesM g k acc8 >>= _) _ = _ at H
 rcases k with _ | k
 · exact oofK H
 rw [piecesM] at H
 try simp only [nr] at H
 show WC prog _ _ _ (upds σ [(0, ptr pb), (2, .pointer none), (3, ptr q4)]) _ (PO pb tb L cap ts9 :: TB tb L :: TN (PT.node 84 [] 0 t1.pos acc8) q4 :: F)
 refine Sz (Mv (ptr pb) (Cv call132 (c_is [125]) H (K2 Z0 Z0) (.tail D1) fun b10 ts11 H => WL_rd (rd_not (b := b10) rfl) (Nt ?_)))
 cases hb13 : (!b10)
 · try simp only [nr, hb13] at H
   refine WC_false rfl (WC_exit (At_thenX (At_loopX (At_blockX (At_then (Sr (Mv (ptr pb) (Cv call139 (c_must [125]) H (K2 Z0 Z0) (.tail D1) fun u14 ts15 H => Ny (Mv (ptr q4) (Av (ptr q4) (Nr (At_scopeR ?_))))))))))))
   try simp only [nr] at H
   exact At_ret1 results187 (fin_node H (K3 Z2 Z0 Z0) E0)
 try simp only [nr, hb13] at H
 refine WC_true rfl (WC_skip (At_then (WC_block (WC_seq (WC.openN Z2 fun v17 => WC_draw [9, 10, 11] [Cl q4 122 [Iv 84, Tx [], Iv 0, .slice none 0 0, Iv t1.pos, slV v17]] mixed (Dt 0 rfl rfl (Q0 (K1 Z0)) (Rm (ptr q4) rfl) (Dt 1 rfl rfl (Q0 (K1 Z0)) (Rm (ptr q4) rfl) (Dt 2 rfl rfl (Q0 (K1 Z0)) (Rn q4 0 rfl) (Dt 3 rfl rfl (Q0 (K1 Z0)) (Rf q4 0 fa122_1 rfl) (Dt 4 rfl rfl (Q0 (K1 Z0)) (Rl q4 5 (slV v17) isAgg120 rfl Z0 rfl) (Dt 5 rfl rfl (Q0 (K1 Z0)) (Rm (ptr pb) rfl) (WD_callN 6 (by kernel_rfl) rfl rfl rfl (run_call call221 (args_map rfl)) (hg (.piece) _ _ _ _) H (K2 Z2 Z2) (fun _ _ h => ⟨rfl, h⟩) rfl (.tail D2) (Q0 (K1 Z0)) fun x18 ts19 q20 H => WD_ef 7 (by kernel_rfl) rfl rfl rfl (ef_buildSlice (E := 118) (vs := [(0, ptr q20)]) (l := [ptr q20]) rfl (bs120_1 _ rfl )) (fun _ _ => Q0 (K1 Z4)) fun b21 => WD_ef 8 (by kernel_rfl) rfl rfl rfl (ef_appendKid rfl rfl (K3 (.succ Z4) Z0 Z0) (by (try simp) <;> omega)) (fun _ _ => Q0 (K1 Z3)) fun v22 => WD_rd 9 (by kernel_rfl) rfl rfl rfl (Rn q4 0 rfl) (late_vac (i := 9) (by kernel_rfl) (by decide)) (WD_rd 10 (by kernel_rfl) rfl rfl rfl (Rf q4 0 fa122_1 rfl) (late_vac (i := 10) (by kernel_rfl) (by decide)) (WD_ef0 11 (by kernel_rfl) rfl rfl rfl (ef_store (b := q4) (o := 5) (v := slV v22) (vs := [slV v22]) sizeOf120 rfl rfl rfl rfl rfl Z3 (.skip (.skip (.skip (.skip (.skip (.put .done))))))) (late_vac (i := 11) (by kernel_rfl) (by decide)) ?_))))))))))))))
 refine WD_done (by kernel_rfl) ?_ _
 refine At_then (Sr (Mv (ptr pb) (Cv call134 (c_take [59]) H (K2 Z2 Z2) (.tail D2) fun b23 ts24 H => WL_rd (rd_not (b := b23) rfl) (Mv (.bool (!b23)) ?_))))
 cases hb26 : (!b23)
 · try simp only [nr, hb26] at H
   refine Pa false 27 (Pa false 27 (Pa false 27 (Pk false (Nt (WC_false rfl (WC_skip (At_blockN (At.ent (closeN (K2 Z2 Z2)) ?_))))))))
   exact At_againM (k, (acc8 ++ [x18])) _ H (show (acc8 ++ [x18]).length + 2 * k ≤ 2 * K + 2 by (try simp) <;> omega) ⟨rfl, rfl, rfl, trivial⟩ (E3 Z1 Z1 Z0) (Nat.lt_succ_self _)
 try simp only [nr, hb26] at H
 refine Ta true 27 (Mv (ptr pb) (Ta true 27 (Cv call134 (c_take [44]) H (K2 Z0 Z0) (.tail D2) fun b27 ts28 H => Ta true 27 (WL_rd (rd_not (b := b27) rfl) (Pk true (Nt ?_))))))
 cases hb30 : (!b27)
 · try simp only [nr, hb30] at H
   refine WC_false rfl (WC_skip (At_blockN (At.ent (closeN (K2 Z2 Z2)) ?_)))
   exact At_againM (k, (acc8 ++ [x18])) _ H (show (acc8 ++ [x18]).length + 2 * k ≤ 2 * K + 2 by (try simp) <;> omega) ⟨rfl, rfl, rfl, trivial⟩ (E3 Z1 Z1 Z0) (Nat.lt_succ_self _)
 try simp only [nr, hb30] at H
 refine WC_true rfl (WC_exit (At_blockY rfl (At_loopX (At_blockX (At_then (Sr (Mv (ptr pb) (Cv call139 (c_must [125]) H (K2 Z0 Z0) (.tail D2) fun u31 ts32 H => Ny (Mv (ptr q4) (Av (ptr q4) (Nr (At_scopeR ?_))))))))))))
 try simp only [nr] at H
 refine At.ent (closeN (K2 Z2 Z2)) ?_
 exact At_ret1 results187 (fin_node H (K3 Z0 Z0 Z0) E0)
theorem n_optional (hg : CG g) : ConM 214 [ptr pb] pb tb L cap [] (optionalM g) resN := by
 intro ts r H F
 show ∀ w, Sat (PO pb tb L cap ts :: TB tb L :: F) w → _
 replace H := bpureH H
 unfold optionalM at H
 try simp only [nr] at H
 refine calls_of_WC (fn := f214) func214 rfl rfl (Sr (Av (.pointer none) (Nz (Mv (ptr pb) (Cv call134 (c_take [58]) H (K2 Z0 Z0) (.tail E0) fun b1 ts2 H => Nt ?_)))))
 cases hb4 : (b1)
 · try simp only [nr, hb4] at H
   refine Fx (Mv (ptr pb) (Cn call188 (c_none) H (K2 Z0 Z0) (.tail E0) fun x5 ts6 q7 H => Av (ptr q7) (Nr ?_)))
   try simp only [nr] at H
   exact At_ret1 results214 (fin_node H (K3 Z0 Z0 Z0) E0)
 try simp only [nr, hb4] at H
 refine Ts (Mv (ptr pb) (Cn call88 (hg (.typed) _ _ _ _) H (K2 Z0 Z0) (.tail E0) fun x8 ts9 q10 H => Av (ptr q10) (Nr (At_thenR ?_))))
 try simp only [nr] at H
 exact At_ret1 results214 (fin_node H (K3 Z0 Z0 Z0) E0)
theorem n_args (hK : K ≤ 274877906944) (hg : CG g) : ConM 215 [ptr pb] pb tb L cap [] (argsM K g) resN := by
 intro ts r H F
 show ∀ w, Sat (PO pb tb L cap ts :: TB tb L :: F) w → _
 replace H := bpureH H
 unfold argsM at H
 try simp only [nr] at H
 refine calls_of_WC (fn := f215) func215 rfl rfl (Sr (Av (.pointer none) (Ny (Mv (ptr pb) (Cv call85 (c_now) H (K2 Z0 Z0) (.tail E0) fun t1 ts2 H => WL_rd (rd_field (u := .agg #[Iv t1.kind, Tx t1.text, Iv t1.pos, Iv t1.en]) (v := Iv t1.pos) rfl (fv47_2 _ _ _ _ )) (Av (Iv t1.pos) (Nz (Mv (ptr pb) (Cv call134 (c_take [60]) H (K2 Z0 Z0) (.tail E0) fun b4 ts5 H => WL_rd (rd_not (b := b4) rfl) (Nt ?_))))))))))
 cases hb7 : (!b4)
 · try simp only [nr, hb7] at H
   refine Fx (Mv (ptr pb) (Mv (ptr pb) (WL_rd (rd_makeFunc (us := [ptr pb]) (vs := []) rfl rfl) (Cn call217 ((c_list (Y := Pr True) (fs := [ptr pb]) (cs := []) hK call88 ((hg .typed pb tb L cap).frame (Pr True))).unframe) H (K2 Z0 Z0) (.tail E0) fun x8 ts9 q10 H => Av (ptr q10) (Ny (Mv (ptr q10) (Mv (Iv t1.pos) (Nc q10 0 (Fa q10 0 fa122_0 (Fa q10 0 fa39_4 ?_))))))))))
   obtain ⟨k11, s11, n11, a11, l11⟩ := x8
   try simp only [nr] at H
   refine WL.openN Z0 fun v12 => S1 q10 4 (Iv t1.pos) sizeOf3 Z0 (.skip (.skip (.skip (.skip (.put .done))))) (Ny (Mv (ptr pb) (Cv call219 (c_angle) H (K2 Z2 Z2) (.tail D2) fun u13 ts14 H => Ny (Mv (ptr q10) (Av (ptr q10) (Nr ?_))))))
   try simp only [nr] at H
   refine At.ent (closeN (K2 Z2 Z2)) ?_
   exact At_ret1 results215 (fin_node H (K3 Z0 Z0 Z0) E0)
 try simp only [nr, hb7] at H
 refine Ts (Mv (ptr pb) (Cn call191 (c_empty) H (K2 Z0 Z0) (.tail E0) fun x20 ts21 q22 H => Av (ptr q22) (Nr (At_thenR ?_))))
 try simp only [nr] at H
 exact At_ret1 results215 (fin_node H (K3 Z0 Z0 Z0) E0)
theorem n_part (hg : CG g) : ConM 216 [ptr pb] pb tb L cap [] (partM g) resN := by
 intro ts r H F
 show ∀ w, Sat (PO pb tb L cap ts :: TB tb L :: F) w → _
 replace H := bpureH H
 unfold partM at H
 try simp only [nr] at H
 refine calls_of_WC (fn := f216) func216 rfl rfl (Sr (Av (.pointer none) (Ny (Mv (ptr pb) (Cv call85 (c_now) H (K2 Z0 Z0) (.tail E0) fun t1 ts2 H => WL_rd (rd_field (u := .agg #[Iv t1.kind, Tx t1.text, Iv t1.pos, Iv t1.en]) (v := Iv t1.pos) rfl (fv47_2 _ _ _ _ )) (Av (Iv t1.pos) (Nz (Mv (ptr pb) (Cv call134 (c_take [99, 111, 110, 115, 116, 114, 117, 99, 116, 111, 114]) H (K2 Z0 Z0) (.tail E0) fun b4 ts5 H => Nt ?_)))))))))
 cases hb7 : (b4)
 rotate_left 1
 · try simp only [nr, hb7] at H
   refine Ts (Mv (ptr pb) (Cv call139 (c_must [40]) H (K2 Z0 Z0) (.tail E0) fun u136 ts137 H => Ny (Mv (ptr pb) (Cn call192 (hg (.params true) _ _ _ _) H (K2 Z0 Z0) (.tail E0) fun x139 ts140 q141 H => Av (ptr q141) (Ny (Mv (ptr pb) (Cv call139 (c_must [41]) H (K2 Z1 Z1) (.tail D1) fun u142 ts143 H => Ny (Mv (Iv t1.pos) (Mv (ptr q141) (Mv (ptr pb) (Cn call133 (hg (.block) _ _ _ _) H (K2 Z0 Z0) (.tail D1) fun x145 ts146 q147 H => Bl 118 [ptr q141, ptr q147] (bs120_2 _ _ rfl rfl ) fun b148 => WL_made (k := 46) (s := []) (nu := 0) (a := t1.pos) rfl rfl (ent_kd2 (K3 Z0 Z3 Z0)) fun q149 => Av (ptr q149) (Nr (At_thenR ?_)))))))))))))
   try simp only [nr] at H
   exact At_ret1 results216 (fin_node H (K3 Z0 Z0 Z0) E0)
 try simp only [nr, hb7] at H
 refine Fz (Mv (ptr pb) (Cv call177 (c_then1) H (K2 Z0 Z0) (.tail E0) fun t8 ts9 H => WL_ef (ef_alloc (l := [Iv 0, Tx [], Iv 0, Iv 0]) zeroValue47 rfl) fun b11 => Sa b11 0 [Iv t8.kind, Tx t8.text, Iv t8.pos, Iv t8.en] sizeOf47 Z0 (.put (.put (.put (.put .done)))) (Ny (Mv (ptr pb) (Cv call85 (c_now) H (K2 Z1 Z1) (.tail D1) fun t12 ts13 H => WL_rd (rd_field (u := .agg #[Iv t12.kind, Tx t12.text, Iv t12.pos, Iv t12.en]) (v := Iv t12.kind) rfl (fv47_0 _ _ _ _ )) (Bo (Iv t12.kind) (Iv 1) (.bool (t12.kind == 1)) eqg_int (binOp_eql _ _ _ _) (Mv (.bool (t12.kind == 1)) ?_)))))))
 cases hb15 : (t12.kind == 1)
 · try simp only [nr, hb15] at H
   refine Pa false 33 (Pa false 33 (Pa false 33 (WL_passU (e := 36) rfl rfl (WL_passU (e := 36) rfl rfl (Pa false 33 (Pk false (Nt (Fx (Av (Iv 0) (Nz (Mv (ptr pb) (Cv call134 (c_take [114, 101, 97, 100, 111, 110, 108, 121]) H (K2 Z0 Z0) (.tail D1) fun b16 ts17 H => Nt ?_))))))))))))
   cases hb19 : (b16)
   · try simp only [nr, hb19] at H
     refine Fx (Mv (ptr pb) (Cv call184 (c_name) H (K2 Z0 Z0) (.tail D1) fun s20 ts21 H => Av (Tx s20) (Ny (Mv (ptr pb) (Cn call214 (hg (.optional) _ _ _ _) H (K2 Z0 Z0) (.tail D1) fun x23 ts24 q25 H => Av (ptr q25) (Ny (Mv (ptr pb) (Cn call188 (c_none) H (K2 Z1 Z1) (.tail D2) fun x26 ts27 q28 H => Av (ptr q28) (Nz (Mv (ptr pb) (Cv call134 (c_take [61]) H (K2 Z1 Z1) (.tail D3) fun b29 ts30 H => Nt ?_)))))))))))
     cases hb32 : (b29)
     · try simp only [nr, hb32] at H
       refine Fx (Mv (ptr pb) (Cv call139 (c_must [59]) H (K2 Z0 Z0) (.tail D3) fun u33 ts34 H => Ny (Mv (Tx s20) (Mv (Iv 0) (Mv (Iv t1.pos) (Mv (ptr q25) (Mv (ptr q28) (Bl 118 [ptr q25, ptr q28] (bs120_2 _ _ rfl rfl ) fun b36 => WL_made (k := 44) (s := s20) (nu := 0) (a := t1.pos) rfl rfl (ent_kd2 (K3 Z0 Z3 Z2)) fun q37 => Av (ptr q37) (Nr ?_)))))))))
       try simp only [nr] at H
       exact At_ret1 results216 (fin_node H (K3 Z0 Z0 Z0) D1)
     try simp only [nr, hb32] at H
     refine Tr (Mv (ptr pb) (Cn call87 (hg (.expr) _ _ _ _) H (K2 Z0 Z0) (.tail D3) fun x38 ts39 q40 H => Av (ptr q40) (Ny (Mv (ptr pb) (Cv call139 (c_must [59]) H (K2 Z1 Z1) (.tail D4) fun u41 ts42 H => Ny (Mv (Tx s20) (Mv (Iv 0) (Mv (Iv t1.pos) (Mv (ptr q25) (Mv (ptr q40) (Bl 118 [ptr q25, ptr q40] (bs120_2 _ _ rfl rfl ) fun b44 => WL_made (k := 44) (s := s20) (nu := 0) (a := t1.pos) rfl rfl (ent_kd2 (K3 Z0 Z4 Z2)) fun q45 => Av (ptr q45) (Nr ?_))))))))))))
     try simp only [nr] at H
     exact At_ret1 results216 (fin_node H (K3 Z0 Z0 Z0) D2)
   try simp only [nr, hb19] at H
   refine Tr (Av (Iv 4) (Ny (Mv (ptr pb) (Cv call184 (c_name) H (K2 Z0 Z0) (.tail D1) fun s46 ts47 H => Av (Tx s46) (Ny (Mv (ptr pb) (Cn call214 (hg (.optional) _ _ _ _) H (K2 Z0 Z0) (.tail D1) fun x49 ts50 q51 H => Av (ptr q51) (Ny (Mv (ptr pb) (Cn call188 (c_none) H (K2 Z1 Z1) (.tail D2) fun x52 ts53 q54 H => Av (ptr q54) (Nz (Mv (ptr pb) (Cv call134 (c_take [61]) H (K2 Z1 Z1) (.tail D3) fun b55 ts56 H => Nt ?_)))))))))))))
   cases hb58 : (b55)
   · try simp only [nr, hb58] at H
     refine Fx (Mv (ptr pb) (Cv call139 (c_must [59]) H (K2 Z0 Z0) (.tail D3) fun u59 ts60 H => Ny (Mv (Tx s46) (Mv (Iv 4) (Mv (Iv t1.pos) (Mv (ptr q51) (Mv (ptr q54) (Bl 118 [ptr q51, ptr q54] (bs120_2 _ _ rfl rfl ) fun b62 => WL_made (k := 44) (s := s46) (nu := 4) (a := t1.pos) rfl rfl (ent_kd2 (K3 Z0 Z3 Z2)) fun q63 => Av (ptr q63) (Nr ?_)))))))))
     try simp only [nr] at H
     exact At_ret1 results216 (fin_node H (K3 Z0 Z0 Z0) D1)
   try simp only [nr, hb58] at H
   refine Tr (Mv (ptr pb) (Cn call87 (hg (.expr) _ _ _ _) H (K2 Z0 Z0) (.tail D3) fun x64 ts65 q66 H => Av (ptr q66) (Ny (Mv (ptr pb) (Cv call139 (c_must [59]) H (K2 Z1 Z1) (.tail D4) fun u67 ts68 H => Ny (Mv (Tx s46) (Mv (Iv 4) (Mv (Iv t1.pos) (Mv (ptr q51) (Mv (ptr q66) (Bl 118 [ptr q51, ptr q66] (bs120_2 _ _ rfl rfl ) fun b70 => WL_made (k := 44) (s := s46) (nu := 4) (a := t1.pos) rfl rfl (ent_kd2 (K3 Z0 Z4 Z2)) fun q71 => Av (ptr q71) (Nr ?_))))))))))))
   try simp only [nr] at H
   exact At_ret1 results216 (fin_node H (K3 Z0 Z0 Z0) D2)
 try simp only [nr, hb15] at H
 refine Ta true 33 (WL_rd (rd_loadN (b := b11) (o := 0) (vs := [Iv t8.kind, Tx t8.text, Iv t8.pos, Iv t8.en]) isAgg47 sizeOf47 rfl Z2 rfl rfl) (Ta true 33 (WL_callQ (Δ := []) (v := .bool (saysB t8 [40])) call176 rfl (c_says t8 [40]) .nil (Ta true 33 (Mv (.bool (saysB t8 [40])) ?_)))))
 cases hb72 : (saysB t8 [40])
 rotate_left 1
 · try simp only [nr, hb72] at H
   refine Pa true 36 (Pa true 36 (Ta true 33 (Pk true (Pk true (Nt (Ts (Mv (ptr pb) (Mv (Iv t1.pos) (Cn call181 (hg (.functio 45 t1.pos) _ _ _ _) H (K2 Z0 Z0) (.tail D1) fun x133 ts134 q135 H => Av (ptr q135) (Nr (At_thenR ?_)))))))))))
   try simp only [nr] at H
   exact At_ret1 results216 (fin_node H (K3 Z0 Z0 Z0) D1)
 try simp only [nr, hb72] at H
 refine Ta false 36 (WL_rd (rd_loadN (b := b11) (o := 0) (vs := [Iv t8.kind, Tx t8.text, Iv t8.pos, Iv t8.en]) isAgg47 sizeOf47 rfl Z2 rfl rfl) (Ta false 36 (WL_callQ (Δ := []) (v := .bool (saysB t8 [60])) call176 rfl (c_says t8 [60]) .nil (Ta true 33 (Pk false (Pk true (Nt ?_)))))))
 cases hb73 : (saysB t8 [60])
 rotate_left 1
 · try simp only [nr, hb73] at H
   refine Ts (Mv (ptr pb) (Mv (Iv t1.pos) (Cn call181 (hg (.functio 45 t1.pos) _ _ _ _) H (K2 Z0 Z0) (.tail D1) fun x130 ts131 q132 H => Av (ptr q132) (Nr (At_thenR ?_)))))
   try simp only [nr] at H
   exact At_ret1 results216 (fin_node H (K3 Z0 Z0 Z0) D1)
 try simp only [nr, hb73] at H
 refine Fx (Av (Iv 0) (Nz (Mv (ptr pb) (Cv call134 (c_take [114, 101, 97, 100, 111, 110, 108, 121]) H (K2 Z0 Z0) (.tail D1) fun b74 ts75 H => Nt ?_))))
 cases hb77 : (b74)
 · try simp only [nr, hb77] at H
   refine Fx (Mv (ptr pb) (Cv call184 (c_name) H (K2 Z0 Z0) (.tail D1) fun s78 ts79 H => Av (Tx s78) (Ny (Mv (ptr pb) (Cn call214 (hg (.optional) _ _ _ _) H (K2 Z0 Z0) (.tail D1) fun x81 ts82 q83 H => Av (ptr q83) (Ny (Mv (ptr pb) (Cn call188 (c_none) H (K2 Z1 Z1) (.tail D2) fun x84 ts85 q86 H => Av (ptr q86) (Nz (Mv (ptr pb) (Cv call134 (c_take [61]) H (K2 Z1 Z1) (.tail D3) fun b87 ts88 H => Nt ?_)))))))))))
   cases hb90 : (b87)
   · try simp only [nr, hb90] at H
     refine Fx (Mv (ptr pb) (Cv call139 (c_must [59]) H (K2 Z0 Z0) (.tail D3) fun u91 ts92 H => Ny (Mv (Tx s78) (Mv (Iv 0) (Mv (Iv t1.pos) (Mv (ptr q83) (Mv (ptr q86) (Bl 118 [ptr q83, ptr q86] (bs120_2 _ _ rfl rfl ) fun b94 => WL_made (k := 44) (s := s78) (nu := 0) (a := t1.pos) rfl rfl (ent_kd2 (K3 Z0 Z3 Z2)) fun q95 => Av (ptr q95) (Nr ?_)))))))))
     try simp only [nr] at H
     exact At_ret1 results216 (fin_node H (K3 Z0 Z0 Z0) D1)
   try simp only [nr, hb90] at H
   refine Tr (Mv (ptr pb) (Cn call87 (hg (.expr) _ _ _ _) H (K2 Z0 Z0) (.tail D3) fun x96 ts97 q98 H => Av (ptr q98) (Ny (Mv (ptr pb) (Cv call139 (c_must [59]) H (K2 Z1 Z1) (.tail D4) fun u99 ts100 H => Ny (Mv (Tx s78) (Mv (Iv 0) (Mv (Iv t1.pos) (Mv (ptr q83) (Mv (ptr q98) (Bl 118 [ptr q83, ptr q98] (bs120_2 _ _ rfl rfl ) fun b102 => WL_made (k := 44) (s := s78) (nu := 0) (a := t1.pos) rfl rfl (ent_kd2 (K3 Z0 Z4 Z2)) fun q103 => Av (ptr q103) (Nr ?_))))))))))))
   try simp only [nr] at H
   exact At_ret1 results216 (fin_node H (K3 Z0 Z0 Z0) D2)
 try simp only [nr, hb77] at H
 refine Tr (Av (Iv 4) (Ny (Mv (ptr pb) (Cv call184 (c_name) H (K2 Z0 Z0) (.tail D1) fun s104 ts105 H => Av (Tx s104) (Ny (Mv (ptr pb) (Cn call214 (hg (.optional) _ _ _ _) H (K2 Z0 Z0) (.tail D1) fun x107 ts108 q109 H => Av (ptr q109) (Ny (Mv (ptr pb) (Cn call188 (c_none) H (K2 Z1 Z1) (.tail D2) fun x110 ts111 q112 H => Av (ptr q112) (Nz (Mv (ptr pb) (Cv call134 (c_take [61]) H (K2 Z1 Z1) (.tail D3) fun b113 ts114 H => Nt ?_)))))))))))))
 cases hb116 : (b113)
 · try simp only [nr, hb116] at H
   refine Fx (Mv (ptr pb) (Cv call139 (c_must [59]) H (K2 Z0 Z0) (.tail D3) fun u117 ts118 H => Ny (Mv (Tx s104) (Mv (Iv 4) (Mv (Iv t1.pos) (Mv (ptr q109) (Mv (ptr q112) (Bl 118 [ptr q109, ptr q112] (bs120_2 _ _ rfl rfl ) fun b120 => WL_made (k := 44) (s := s104) (nu := 4) (a := t1.pos) rfl rfl (ent_kd2 (K3 Z0 Z3 Z2)) fun q121 => Av (ptr q121) (Nr ?_)))))))))
   try simp only [nr] at H
   exact At_ret1 results216 (fin_node H (K3 Z0 Z0 Z0) D1)
 try simp only [nr, hb116] at H
 refine Tr (Mv (ptr pb) (Cn call87 (hg (.expr) _ _ _ _) H (K2 Z0 Z0) (.tail D3) fun x122 ts123 q124 H => Av (ptr q124) (Ny (Mv (ptr pb) (Cv call139 (c_must [59]) H (K2 Z1 Z1) (.tail D4) fun u125 ts126 H => Ny (Mv (Tx s104) (Mv (Iv 4) (Mv (Iv t1.pos) (Mv (ptr q109) (Mv (ptr q124) (Bl 118 [ptr q109, ptr q124] (bs120_2 _ _ rfl rfl ) fun b128 => WL_made (k := 44) (s := s104) (nu := 4) (a := t1.pos) rfl rfl (ent_kd2 (K3 Z0 Z4 Z2)) fun q129 => Av (ptr q129) (Nr ?_))))))))))))
 try simp only [nr] at H
 exact At_ret1 results216 (fin_node H (K3 Z0 Z0 Z0) D2)
theorem n_ref (hK : K ≤ 274877906944) (hg : CG g) : ConM 220 [ptr pb] pb tb L cap [] (refM K g) resN := by
 intro ts r H F
 show ∀ w, Sat (PO pb tb L cap ts :: TB tb L :: F) w → _
 replace H := bpureH H
 unfold refM at H
 try simp only [nr] at H
 refine calls_of_WC (fn := f220) func220 rfl rfl (Sr (Av (.pointer none) (Ny (Mv (ptr pb) (Cv call85 (c_now) H (K2 Z0 Z0) (.tail E0) fun t1 ts2 H => WL_ef (ef_alloc (l := [Iv 0, Tx [], Iv 0, Iv 0]) zeroValue47 rfl) fun b4 => Sa b4 0 [Iv t1.kind, Tx t1.text, Iv t1.pos, Iv t1.en] sizeOf47 Z0 (.put (.put (.put (.put .done)))) (Nt (WC_seq (WC_block (Sz (Mv (ptr pb) (Cv call134 (c_take [110, 117, 108, 108]) H (K2 Z1 Z1) (.tail D1) fun b5 ts6 H => Av (.bool b5) (Nt ?_))))))))))))
 cases hb8 : (b5)
 rotate_left 1
 · try simp only [nr, hb8] at H
   refine WC_true rfl (WC_skip (At_then (WC_true rfl (WC_seq (WC_draw [8] [Cl b4 47 [Iv t1.kind, Tx t1.text, Iv t1.pos, Iv t1.en]] mixed (Dt 0 rfl rfl (Q0 (K1 Z2)) (Rf b4 0 fa47_1 rfl) (Dt 1 rfl rfl (Q0 (K1 Z2)) (Rl b4 1 (Tx t1.text) isAgg9 rfl Z0 rfl) (Dt 2 rfl rfl (Q0 (K1 Z2)) (Rf b4 0 fa47_2 rfl) (Dt 3 rfl rfl (Q0 (K1 Z2)) (Rl b4 2 (Iv t1.pos) isAgg3 rfl Z0 rfl) (Dt 4 rfl rfl (Q0 (K1 Z2)) (Rm (ptr pb) rfl) (WD_callN 5 (by kernel_rfl) rfl rfl rfl (run_call call191 (args_map rfl)) (c_empty) H (K2 Z0 Z0) (fun _ _ h => ⟨rfl, h⟩) rfl (.tail D1) (Q0 (K1 Z0)) fun x51 ts52 q53 H => WD_ef 6 (by kernel_rfl) rfl rfl rfl (ef_buildSlice (E := 118) (vs := [(0, ptr q53)]) (l := [ptr q53]) rfl (bs120_1 _ rfl )) (fun _ _ => Q0 (K1 Z4)) fun b54 => WD_made 7 (by kernel_rfl) rfl rfl rfl (run_call call84 (args_map (args := [Iv 80, Tx t1.text, Iv 0, Iv t1.pos, Sl b54 1 1]) rfl)) rfl (ent_kd1 (K2 Z0 Z0)) (Q0 (K1 Z2)) fun q55 => WD_rd 8 (by kernel_rfl) rfl rfl rfl (Ra (ptr q55) rfl) (late_vac (i := 8) (by kernel_rfl) (by decide)) ?_)))))))))))
   refine WD_done (by kernel_rfl) ?_ _
   refine At_then (WC_ret (At_blockR (At_thenR ?_)))
   try simp only [nr] at H
   exact At_ret1 results220 (fin_node H (K3 Z0 Z0 Z0) D1)
 try simp only [nr, hb8] at H
 refine WC_false rfl (Sr (Mv (ptr pb) (Cv call134 (c_take [117, 110, 100, 101, 102, 105, 110, 101, 100]) H (K2 Z0 Z0) (.tail D1) fun b9 ts10 H => Av (.bool b9) (Nt ?_))))
 cases hb12 : (b9)
 rotate_left 1
 · try simp only [nr, hb12] at H
   refine WC_true rfl (WC_skip (At_then (WC_true rfl (WC_seq (WC_draw [8] [Cl b4 47 [Iv t1.kind, Tx t1.text, Iv t1.pos, Iv t1.en]] mixed (Dt 0 rfl rfl (Q0 (K1 Z2)) (Rf b4 0 fa47_1 rfl) (Dt 1 rfl rfl (Q0 (K1 Z2)) (Rl b4 1 (Tx t1.text) isAgg9 rfl Z0 rfl) (Dt 2 rfl rfl (Q0 (K1 Z2)) (Rf b4 0 fa47_2 rfl) (Dt 3 rfl rfl (Q0 (K1 Z2)) (Rl b4 2 (Iv t1.pos) isAgg3 rfl Z0 rfl) (Dt 4 rfl rfl (Q0 (K1 Z2)) (Rm (ptr pb) rfl) (WD_callN 5 (by kernel_rfl) rfl rfl rfl (run_call call191 (args_map rfl)) (c_empty) H (K2 Z0 Z0) (fun _ _ h => ⟨rfl, h⟩) rfl (.tail D1) (Q0 (K1 Z0)) fun x46 ts47 q48 H => WD_ef 6 (by kernel_rfl) rfl rfl rfl (ef_buildSlice (E := 118) (vs := [(0, ptr q48)]) (l := [ptr q48]) rfl (bs120_1 _ rfl )) (fun _ _ => Q0 (K1 Z4)) fun b49 => WD_made 7 (by kernel_rfl) rfl rfl rfl (run_call call84 (args_map (args := [Iv 80, Tx t1.text, Iv 0, Iv t1.pos, Sl b49 1 1]) rfl)) rfl (ent_kd1 (K2 Z0 Z0)) (Q0 (K1 Z2)) fun q50 => WD_rd 8 (by kernel_rfl) rfl rfl rfl (Ra (ptr q50) rfl) (late_vac (i := 8) (by kernel_rfl) (by decide)) ?_)))))))))))
   refine WD_done (by kernel_rfl) ?_ _
   refine At_then (WC_ret (At_blockR (At_thenR ?_)))
   try simp only [nr] at H
   exact At_ret1 results220 (fin_node H (K3 Z0 Z0 Z0) D1)
 try simp only [nr, hb12] at H
 refine WC_false rfl (Sr (Mv (ptr pb) (Cv call134 (c_take [116, 114, 117, 101]) H (K2 Z0 Z0) (.tail D1) fun b13 ts14 H => Av (.bool b13) (Nt ?_))))
 cases hb16 : (b13)
 rotate_left 1
 · try simp only [nr, hb16] at H
   refine WC_true rfl (WC_skip (At_then (WC_true rfl (WC_seq (WC_draw [8] [Cl b4 47 [Iv t1.kind, Tx t1.text, Iv t1.pos, Iv t1.en]] mixed (Dt 0 rfl rfl (Q0 (K1 Z2)) (Rf b4 0 fa47_1 rfl) (Dt 1 rfl rfl (Q0 (K1 Z2)) (Rl b4 1 (Tx t1.text) isAgg9 rfl Z0 rfl) (Dt 2 rfl rfl (Q0 (K1 Z2)) (Rf b4 0 fa47_2 rfl) (Dt 3 rfl rfl (Q0 (K1 Z2)) (Rl b4 2 (Iv t1.pos) isAgg3 rfl Z0 rfl) (Dt 4 rfl rfl (Q0 (K1 Z2)) (Rm (ptr pb) rfl) (WD_callN 5 (by kernel_rfl) rfl rfl rfl (run_call call191 (args_map rfl)) (c_empty) H (K2 Z0 Z0) (fun _ _ h => ⟨rfl, h⟩) rfl (.tail D1) (Q0 (K1 Z0)) fun x41 ts42 q43 H => WD_ef 6 (by kernel_rfl) rfl rfl rfl (ef_buildSlice (E := 118) (vs := [(0, ptr q43)]) (l := [ptr q43]) rfl (bs120_1 _ rfl )) (fun _ _ => Q0 (K1 Z4)) fun b44 => WD_made 7 (by kernel_rfl) rfl rfl rfl (run_call call84 (args_map (args := [Iv 80, Tx t1.text, Iv 0, Iv t1.pos, Sl b44 1 1]) rfl)) rfl (ent_kd1 (K2 Z0 Z0)) (Q0 (K1 Z2)) fun q45 => WD_rd 8 (by kernel_rfl) rfl rfl rfl (Ra (ptr q45) rfl) (late_vac (i := 8) (by kernel_rfl) (by decide)) ?_)))))))))))
   refine WD_done (by kernel_rfl) ?_ _
   refine At_then (WC_ret (At_blockR (At_thenR ?_)))
   try simp only [nr] at H
   exact At_ret1 results220 (fin_node H (K3 Z0 Z0 Z0) D1)
 try simp only [nr, hb16] at H
 refine WC_false rfl (WC_region (Mv (ptr pb) (Cv call134 (c_take [102, 97, 108, 115, 101]) H (K2 Z0 Z0) (.tail D1) fun b17 ts18 H => Av (.bool b17) (Nt ?_))))
 cases hb20 : (b17)
 rotate_left 1
 · try simp only [nr, hb20] at H
   refine WC_true rfl (WC_seq (WC_draw [8] [Cl b4 47 [Iv t1.kind, Tx t1.text, Iv t1.pos, Iv t1.en]] mixed (Dt 0 rfl rfl (Q0 (K1 Z2)) (Rf b4 0 fa47_1 rfl) (Dt 1 rfl rfl (Q0 (K1 Z2)) (Rl b4 1 (Tx t1.text) isAgg9 rfl Z0 rfl) (Dt 2 rfl rfl (Q0 (K1 Z2)) (Rf b4 0 fa47_2 rfl) (Dt 3 rfl rfl (Q0 (K1 Z2)) (Rl b4 2 (Iv t1.pos) isAgg3 rfl Z0 rfl) (Dt 4 rfl rfl (Q0 (K1 Z2)) (Rm (ptr pb) rfl) (WD_callN 5 (by kernel_rfl) rfl rfl rfl (run_call call191 (args_map rfl)) (c_empty) H (K2 Z0 Z0) (fun _ _ h => ⟨rfl, h⟩) rfl (.tail D1) (Q0 (K1 Z0)) fun x36 ts37 q38 H => WD_ef 6 (by kernel_rfl) rfl rfl rfl (ef_buildSlice (E := 118) (vs := [(0, ptr q38)]) (l := [ptr q38]) rfl (bs120_1 _ rfl )) (fun _ _ => Q0 (K1 Z4)) fun b39 => WD_made 7 (by kernel_rfl) rfl rfl rfl (run_call call84 (args_map (args := [Iv 80, Tx t1.text, Iv 0, Iv t1.pos, Sl b39 1 1]) rfl)) rfl (ent_kd1 (K2 Z0 Z0)) (Q0 (K1 Z2)) fun q40 => WD_rd 8 (by kernel_rfl) rfl rfl rfl (Ra (ptr q40) rfl) (late_vac (i := 8) (by kernel_rfl) (by decide)) ?_))))))))
   refine WD_done (by kernel_rfl) ?_ _
   refine At_then (WC_ret (At_blockR (At_thenR ?_)))
   try simp only [nr] at H
   exact At_ret1 results220 (fin_node H (K3 Z0 Z0 Z0) D1)
 try simp only [nr, hb20] at H
 refine WC_false rfl (WC_skip (At_blockN (At_then (Sr (Mv (ptr pb) (WL_callB call184 rfl c_nameB H (K2 Z0 Z0) (fun _ _ h => ⟨rfl, h⟩) rfl (.tail D1) fun s21 ts22 hls21 H => Av (Tx s21) (Nt (WC_seq (WC_block (WC_loopM (G := Nat × Bs) (fun x => x.2.length + 1048577 * x.1 ≤ 1048577 * K + 1048576) (fun x => pathM x.1 x.2) (fun x => [(0, ptr pb), (2, .pointer none), (3, ptr b4), (4, Tx x.2)]) (fun x ts => PO pb tb L cap ts :: TB tb L :: Cl b4 47 [Iv t1.kind, Tx t1.text, Iv t1.pos, Iv t1.en] :: F) (fun x => x.1) (K, s21) H (show s21.length + 1048577 * K ≤ 1048577 * K + 1048576 by (try simp) <;> omega) ⟨rfl, rfl, rfl, rfl, trivial⟩ (E3 Z0 Z0 Z0) ?_))))))))))
 rintro ⟨k, s23⟩ ts24 σ hpre H
 replace hpre : s23.length + 1048577 * k ≤ 1048577 * K + 1048576 := hpre
 change (pathM k s23 >>= _) _ = _ at H
 rcases k with _ | k
 · exact oofK H
 rw [pathM] at H
 try simp only [nr] at H
 show WC prog _ _ _ (upds σ [(0, ptr pb), (2, .pointer none), (3, ptr b4), (4, Tx s23)]) _ (PO pb tb L cap ts24 :: TB tb L :: Cl b4 47 [Iv t1.kind, Tx t1.text, Iv t1.pos, Iv t1.en] :: F)
 refine Sz (Mv (ptr pb) (Cv call134 (c_take [46]) H (K2 Z0 Z0) (.tail D1) fun b25 ts26 H => Nt ?_))
 cases hb28 : (b25)
 rotate_left 1
 · try simp only [nr, hb28] at H
   refine WC_true rfl (WC_skip (At_then (WC_block (WC_region (Mv (Tx s23) (Mv (ptr pb) (WL_callB call184 rfl c_nameB H (K2 Z0 Z0) (fun _ _ h => ⟨rfl, h⟩) rfl (.tail D1) fun s34 ts35 hls34 H => WL_rd (rd_addBs (a := [46]) (b := s34) rfl rfl (by (try simp) <;> omega)) (WL_rd (rd_addBs (a := s23) (b := ([46] ++ s34)) rfl rfl (by (try simp) <;> omega)) (Av (.string (bs (s23 ++ ([46] ++ s34)))) (WL_nil (At_blockN ?_)))))))))))
   exact At_againM (k, (s23 ++ ([46] ++ s34))) _ H (show (s23 ++ ([46] ++ s34)).length + 1048577 * k ≤ 1048577 * K + 1048576 by (try simp) <;> omega) ⟨rfl, rfl, rfl, rfl, trivial⟩ (E3 Z0 Z0 Z0) (Nat.lt_succ_self _)
 try simp only [nr, hb28] at H
 refine WC_false rfl (WC_exit (At_thenX (At_loopX (At_blockX (At_then (WC_seq (WC_draw [7] [Cl b4 47 [Iv t1.kind, Tx t1.text, Iv t1.pos, Iv t1.en]] mixed (Dt 0 rfl rfl (Q0 (K1 Z2)) (Rm (Tx s23) rfl) (Dt 1 rfl rfl (Q0 (K1 Z2)) (Rf b4 0 fa47_2 rfl) (Dt 2 rfl rfl (Q0 (K1 Z2)) (Rl b4 2 (Iv t1.pos) isAgg3 rfl Z0 rfl) (Dt 3 rfl rfl (Q0 (K1 Z2)) (Rm (ptr pb) rfl) (WD_callN 4 (by kernel_rfl) rfl rfl rfl (run_call call215 (args_map rfl)) (hg (.args) _ _ _ _) H (K2 Z0 Z0) (fun _ _ h => ⟨rfl, h⟩) rfl (.tail D1) (Q0 (K1 Z0)) fun x29 ts30 q31 H => WD_ef 5 (by kernel_rfl) rfl rfl rfl (ef_buildSlice (E := 118) (vs := [(0, ptr q31)]) (l := [ptr q31]) rfl (bs120_1 _ rfl )) (fun _ _ => Q0 (K1 Z4)) fun b32 => WD_made 6 (by kernel_rfl) rfl rfl rfl (run_call call84 (args_map (args := [Iv 80, Tx s23, Iv 0, Iv t1.pos, Sl b32 1 1]) rfl)) rfl (ent_kd1 (K2 Z0 Z0)) (Q0 (K1 Z2)) fun q33 => WD_rd 7 (by kernel_rfl) rfl rfl rfl (Ra (ptr q33) rfl) (late_vac (i := 7) (by kernel_rfl) (by decide)) ?_))))))))))))
 refine WD_done (by kernel_rfl) ?_ _
 refine At_then (WC_ret ?_)
 try simp only [nr] at H
 exact At_ret1 results220 (fin_node H (K3 Z0 Z0 Z0) D1)
theorem n_piece (hg : CG g) : ConM 221 [ptr pb] pb tb L cap [] (pieceM g) resN := by
 intro ts r H F
 show ∀ w, Sat (PO pb tb L cap ts :: TB tb L :: F) w → _
 replace H := bpureH H
 unfold pieceM at H
 try simp only [nr] at H
 refine calls_of_WC (fn := f221) func221 rfl rfl (Sr (Av (.pointer none) (Ny (Mv (ptr pb) (Cv call85 (c_now) H (K2 Z0 Z0) (.tail E0) fun t1 ts2 H => WL_rd (rd_field (u := .agg #[Iv t1.kind, Tx t1.text, Iv t1.pos, Iv t1.en]) (v := Iv t1.pos) rfl (fv47_2 _ _ _ _ )) (Av (Iv t1.pos) (Ny (Mv (ptr pb) (Cv call184 (c_name) H (K2 Z0 Z0) (.tail E0) fun s4 ts5 H => Av (Tx s4) (Nz (Mv (ptr pb) (Cv call132 (c_is [40]) H (K2 Z0 Z0) (.tail E0) fun b7 ts8 H => Nt ?_))))))))))))
 cases hb10 : (b7)
 · try simp only [nr, hb10] at H
   refine Fx (Av (Iv 0) (Nz (Mv (ptr pb) (Cv call134 (c_take [63]) H (K2 Z0 Z0) (.tail E0) fun b11 ts12 H => Nt ?_))))
   cases hb14 : (b11)
   · try simp only [nr, hb14] at H
     refine Fx (Mv (ptr pb) (Cv call139 (c_must [58]) H (K2 Z0 Z0) (.tail E0) fun u15 ts16 H => Ny (Mv (Tx s4) (Mv (Iv 0) (Mv (Iv t1.pos) (Mv (ptr pb) (Cn call88 (hg (.typed) _ _ _ _) H (K2 Z0 Z0) (.tail E0) fun x18 ts19 q20 H => Bl 118 [ptr q20] (bs120_1 _ rfl ) fun b21 => WL_made (k := 85) (s := s4) (nu := 0) (a := t1.pos) rfl rfl (ent_kd1 (K2 Z0 Z0)) fun q22 => Av (ptr q22) (Nr ?_))))))))
     try simp only [nr] at H
     exact At_ret1 results221 (fin_node H (K3 Z0 Z0 Z0) E0)
   try simp only [nr, hb14] at H
   refine Tr (Av (Iv 1) (Ny (Mv (ptr pb) (Cv call139 (c_must [58]) H (K2 Z0 Z0) (.tail E0) fun u23 ts24 H => Ny (Mv (Tx s4) (Mv (Iv 1) (Mv (Iv t1.pos) (Mv (ptr pb) (Cn call88 (hg (.typed) _ _ _ _) H (K2 Z0 Z0) (.tail E0) fun x26 ts27 q28 H => Bl 118 [ptr q28] (bs120_1 _ rfl ) fun b29 => WL_made (k := 85) (s := s4) (nu := 1) (a := t1.pos) rfl rfl (ent_kd1 (K2 Z0 Z0)) fun q30 => Av (ptr q30) (Nr ?_))))))))))
   try simp only [nr] at H
   exact At_ret1 results221 (fin_node H (K3 Z0 Z0 Z0) E0)
 try simp only [nr, hb10] at H
 refine Ts (Mv (ptr pb) (Cv call85 (c_now) H (K2 Z0 Z0) (.tail E0) fun t31 ts32 H => WL_rd (rd_field (u := .agg #[Iv t31.kind, Tx t31.text, Iv t31.pos, Iv t31.en]) (v := Iv t31.pos) rfl (fv47_2 _ _ _ _ )) (Av (Iv t31.pos) (Ny (Mv (ptr pb) (Cv call139 (c_must [40]) H (K2 Z0 Z0) (.tail E0) fun u34 ts35 H => Ny (Mv (ptr pb) (Cn call192 (hg (.params false) _ _ _ _) H (K2 Z0 Z0) (.tail E0) fun x37 ts38 q39 H => Av (ptr q39) (Ny (Mv (ptr pb) (Cv call139 (c_must [41]) H (K2 Z1 Z1) (.tail D1) fun u40 ts41 H => Ny (Mv (ptr pb) (Cv call139 (c_must [58]) H (K2 Z0 Z0) (.tail D1) fun u43 ts44 H => Ny (Mv (Tx s4) (Mv (Iv t1.pos) (Mv (Iv t31.pos) (Mv (ptr q39) (Mv (ptr pb) (Cn call88 (hg (.typed) _ _ _ _) H (K2 Z0 Z0) (.tail D1) fun x46 ts47 q48 H => Bl 118 [ptr q39, ptr q48] (bs120_2 _ _ rfl rfl ) fun b49 => WL_made (k := 86) (s := []) (nu := 0) (a := t31.pos) rfl rfl (ent_kd2 (K3 Z0 Z3 Z0)) fun q50 => Bl 118 [ptr q50] (bs120_1 _ rfl ) fun b51 => WL_made (k := 85) (s := s4) (nu := 0) (a := t1.pos) rfl rfl (ent_kd1 (K2 Z0 Z0)) fun q52 => Av (ptr q52) (Nr (At_thenR ?_)))))))))))))))))))))
 try simp only [nr] at H
 exact At_ret1 results221 (fin_node H (K3 Z0 Z0 Z0) E0)
theorem n_unary (hg : CG g) : ConM 224 [ptr pb] pb tb L cap [] (unaryM g) resN := by
 intro ts r H F
 show ∀ w, Sat (PO pb tb L cap ts :: TB tb L :: F) w → _
 replace H := bpureH H
 unfold unaryM at H
 try simp only [nr] at H
 refine calls_of_WC (fn := f224) func224 rfl rfl (Sr (Av (.pointer none) (Ny (Mv (ptr pb) (Cv call85 (c_now) H (K2 Z0 Z0) (.tail E0) fun t1 ts2 H => WL_ef (ef_alloc (l := [Iv 0, Tx [], Iv 0, Iv 0]) zeroValue47 rfl) fun b4 => Sa b4 0 [Iv t1.kind, Tx t1.text, Iv t1.pos, Iv t1.en] sizeOf47 Z0 (.put (.put (.put (.put .done)))) (Nt (WC_seq (WC_block (Sz (Mv (ptr pb) (Cv call134 (c_take [33]) H (K2 Z1 Z1) (.tail D1) fun b5 ts6 H => Av (.bool b5) (Nt ?_))))))))))))
 cases hb8 : (b5)
 rotate_left 1
 · try simp only [nr, hb8] at H
   refine WC_true rfl (WC_skip (At_then (WC_true rfl (WC_seq (WC_draw [8] [Cl b4 47 [Iv t1.kind, Tx t1.text, Iv t1.pos, Iv t1.en]] mixed (Dt 0 rfl rfl (Q0 (K1 Z2)) (Rf b4 0 fa47_1 rfl) (Dt 1 rfl rfl (Q0 (K1 Z2)) (Rl b4 1 (Tx t1.text) isAgg9 rfl Z0 rfl) (Dt 2 rfl rfl (Q0 (K1 Z2)) (Rf b4 0 fa47_2 rfl) (Dt 3 rfl rfl (Q0 (K1 Z2)) (Rl b4 2 (Iv t1.pos) isAgg3 rfl Z0 rfl) (Dt 4 rfl rfl (Q0 (K1 Z2)) (Rm (ptr pb) rfl) (WD_callN 5 (by kernel_rfl) rfl rfl rfl (run_call call224 (args_map rfl)) (hg (.unary) _ _ _ _) H (K2 Z0 Z0) (fun _ _ h => ⟨rfl, h⟩) rfl (.tail D1) (Q0 (K1 Z0)) fun x39 ts40 q41 H => WD_ef 6 (by kernel_rfl) rfl rfl rfl (ef_buildSlice (E := 118) (vs := [(0, ptr q41)]) (l := [ptr q41]) rfl (bs120_1 _ rfl )) (fun _ _ => Q0 (K1 Z4)) fun b42 => WD_made 7 (by kernel_rfl) rfl rfl rfl (run_call call84 (args_map (args := [Iv 23, Tx t1.text, Iv 0, Iv t1.pos, Sl b42 1 1]) rfl)) rfl (ent_kd1 (K2 Z0 Z0)) (Q0 (K1 Z2)) fun q43 => WD_rd 8 (by kernel_rfl) rfl rfl rfl (Ra (ptr q43) rfl) (late_vac (i := 8) (by kernel_rfl) (by decide)) ?_)))))))))))
   refine WD_done (by kernel_rfl) ?_ _
   refine At_then (WC_ret (At_blockR (At_thenR ?_)))
   try simp only [nr] at H
   exact At_ret1 results224 (fin_node H (K3 Z0 Z0 Z0) D1)
 try simp only [nr, hb8] at H
 refine WC_false rfl (Sr (Mv (ptr pb) (Cv call134 (c_take [45]) H (K2 Z0 Z0) (.tail D1) fun b9 ts10 H => Av (.bool b9) (Nt ?_))))
 cases hb12 : (b9)
 rotate_left 1
 · try simp only [nr, hb12] at H
   refine WC_true rfl (WC_skip (At_then (WC_true rfl (WC_seq (WC_draw [8] [Cl b4 47 [Iv t1.kind, Tx t1.text, Iv t1.pos, Iv t1.en]] mixed (Dt 0 rfl rfl (Q0 (K1 Z2)) (Rf b4 0 fa47_1 rfl) (Dt 1 rfl rfl (Q0 (K1 Z2)) (Rl b4 1 (Tx t1.text) isAgg9 rfl Z0 rfl) (Dt 2 rfl rfl (Q0 (K1 Z2)) (Rf b4 0 fa47_2 rfl) (Dt 3 rfl rfl (Q0 (K1 Z2)) (Rl b4 2 (Iv t1.pos) isAgg3 rfl Z0 rfl) (Dt 4 rfl rfl (Q0 (K1 Z2)) (Rm (ptr pb) rfl) (WD_callN 5 (by kernel_rfl) rfl rfl rfl (run_call call224 (args_map rfl)) (hg (.unary) _ _ _ _) H (K2 Z0 Z0) (fun _ _ h => ⟨rfl, h⟩) rfl (.tail D1) (Q0 (K1 Z0)) fun x34 ts35 q36 H => WD_ef 6 (by kernel_rfl) rfl rfl rfl (ef_buildSlice (E := 118) (vs := [(0, ptr q36)]) (l := [ptr q36]) rfl (bs120_1 _ rfl )) (fun _ _ => Q0 (K1 Z4)) fun b37 => WD_made 7 (by kernel_rfl) rfl rfl rfl (run_call call84 (args_map (args := [Iv 23, Tx t1.text, Iv 0, Iv t1.pos, Sl b37 1 1]) rfl)) rfl (ent_kd1 (K2 Z0 Z0)) (Q0 (K1 Z2)) fun q38 => WD_rd 8 (by kernel_rfl) rfl rfl rfl (Ra (ptr q38) rfl) (late_vac (i := 8) (by kernel_rfl) (by decide)) ?_)))))))))))
   refine WD_done (by kernel_rfl) ?_ _
   refine At_then (WC_ret (At_blockR (At_thenR ?_)))
   try simp only [nr] at H
   exact At_ret1 results224 (fin_node H (K3 Z0 Z0 Z0) D1)
 try simp only [nr, hb12] at H
 refine WC_false rfl (Sr (Mv (ptr pb) (Cv call134 (c_take [126]) H (K2 Z0 Z0) (.tail D1) fun b13 ts14 H => Av (.bool b13) (Nt ?_))))
 cases hb16 : (b13)
 rotate_left 1
 · try simp only [nr, hb16] at H
   refine WC_true rfl (WC_skip (At_then (WC_true rfl (WC_seq (WC_draw [8] [Cl b4 47 [Iv t1.kind, Tx t1.text, Iv t1.pos, Iv t1.en]] mixed (Dt 0 rfl rfl (Q0 (K1 Z2)) (Rf b4 0 fa47_1 rfl) (Dt 1 rfl rfl (Q0 (K1 Z2)) (Rl b4 1 (Tx t1.text) isAgg9 rfl Z0 rfl) (Dt 2 rfl rfl (Q0 (K1 Z2)) (Rf b4 0 fa47_2 rfl) (Dt 3 rfl rfl (Q0 (K1 Z2)) (Rl b4 2 (Iv t1.pos) isAgg3 rfl Z0 rfl) (Dt 4 rfl rfl (Q0 (K1 Z2)) (Rm (ptr pb) rfl) (WD_callN 5 (by kernel_rfl) rfl rfl rfl (run_call call224 (args_map rfl)) (hg (.unary) _ _ _ _) H (K2 Z0 Z0) (fun _ _ h => ⟨rfl, h⟩) rfl (.tail D1) (Q0 (K1 Z0)) fun x29 ts30 q31 H => WD_ef 6 (by kernel_rfl) rfl rfl rfl (ef_buildSlice (E := 118) (vs := [(0, ptr q31)]) (l := [ptr q31]) rfl (bs120_1 _ rfl )) (fun _ _ => Q0 (K1 Z4)) fun b32 => WD_made 7 (by kernel_rfl) rfl rfl rfl (run_call call84 (args_map (args := [Iv 23, Tx t1.text, Iv 0, Iv t1.pos, Sl b32 1 1]) rfl)) rfl (ent_kd1 (K2 Z0 Z0)) (Q0 (K1 Z2)) fun q33 => WD_rd 8 (by kernel_rfl) rfl rfl rfl (Ra (ptr q33) rfl) (late_vac (i := 8) (by kernel_rfl) (by decide)) ?_)))))))))))
   refine WD_done (by kernel_rfl) ?_ _
   refine At_then (WC_ret (At_blockR (At_thenR ?_)))
   try simp only [nr] at H
   exact At_ret1 results224 (fin_node H (K3 Z0 Z0 Z0) D1)
 try simp only [nr, hb16] at H
 refine WC_false rfl (WC_region (Mv (ptr pb) (Cv call134 (c_take [116, 121, 112, 101, 111, 102]) H (K2 Z0 Z0) (.tail D1) fun b17 ts18 H => Av (.bool b17) (Nt ?_))))
 cases hb20 : (b17)
 · try simp only [nr, hb20] at H
   refine WC_false rfl (WC_skip (At_blockN (At_then (Sr (Mv (ptr pb) (Cn call244 (hg (.postf) _ _ _ _) H (K2 Z0 Z0) (.tail D1) fun x21 ts22 q23 H => Av (ptr q23) (Nr ?_)))))))
   try simp only [nr] at H
   exact At_ret1 results224 (fin_node H (K3 Z0 Z0 Z0) D1)
 try simp only [nr, hb20] at H
 refine WC_true rfl (WC_seq (WC_draw [8] [Cl b4 47 [Iv t1.kind, Tx t1.text, Iv t1.pos, Iv t1.en]] mixed (Dt 0 rfl rfl (Q0 (K1 Z2)) (Rf b4 0 fa47_1 rfl) (Dt 1 rfl rfl (Q0 (K1 Z2)) (Rl b4 1 (Tx t1.text) isAgg9 rfl Z0 rfl) (Dt 2 rfl rfl (Q0 (K1 Z2)) (Rf b4 0 fa47_2 rfl) (Dt 3 rfl rfl (Q0 (K1 Z2)) (Rl b4 2 (Iv t1.pos) isAgg3 rfl Z0 rfl) (Dt 4 rfl rfl (Q0 (K1 Z2)) (Rm (ptr pb) rfl) (WD_callN 5 (by kernel_rfl) rfl rfl rfl (run_call call224 (args_map rfl)) (hg (.unary) _ _ _ _) H (K2 Z0 Z0) (fun _ _ h => ⟨rfl, h⟩) rfl (.tail D1) (Q0 (K1 Z0)) fun x24 ts25 q26 H => WD_ef 6 (by kernel_rfl) rfl rfl rfl (ef_buildSlice (E := 118) (vs := [(0, ptr q26)]) (l := [ptr q26]) rfl (bs120_1 _ rfl )) (fun _ _ => Q0 (K1 Z4)) fun b27 => WD_made 7 (by kernel_rfl) rfl rfl rfl (run_call call84 (args_map (args := [Iv 23, Tx t1.text, Iv 0, Iv t1.pos, Sl b27 1 1]) rfl)) rfl (ent_kd1 (K2 Z0 Z0)) (Q0 (K1 Z2)) fun q28 => WD_rd 8 (by kernel_rfl) rfl rfl rfl (Ra (ptr q28) rfl) (late_vac (i := 8) (by kernel_rfl) (by decide)) ?_))))))))
 refine WD_done (by kernel_rfl) ?_ _
 refine At_then (WC_ret (At_blockR (At_thenR ?_)))
 try simp only [nr] at H
 exact At_ret1 results224 (fin_node H (K3 Z0 Z0 Z0) D1)
theorem n_arrowType (hg : CG g) : ConM 225 [ptr pb] pb tb L cap [] (arrowTypeM g) resN := by
 intro ts r H F
 show ∀ w, Sat (PO pb tb L cap ts :: TB tb L :: F) w → _
 replace H := bpureH H
 unfold arrowTypeM at H
 try simp only [nr] at H
 refine calls_of_WC (fn := f225) func225 rfl rfl (Sr (Av (.pointer none) (Ny (Mv (ptr pb) (Cv call85 (c_now) H (K2 Z0 Z0) (.tail E0) fun t1 ts2 H => WL_rd (rd_field (u := .agg #[Iv t1.kind, Tx t1.text, Iv t1.pos, Iv t1.en]) (v := Iv t1.pos) rfl (fv47_2 _ _ _ _ )) (Av (Iv t1.pos) (Ny (Mv (ptr pb) (Cv call139 (c_must [40]) H (K2 Z0 Z0) (.tail E0) fun u4 ts5 H => Ny (Mv (ptr pb) (Cn call192 (hg (.params false) _ _ _ _) H (K2 Z0 Z0) (.tail E0) fun x7 ts8 q9 H => Av (ptr q9) (Ny (Mv (ptr pb) (Cv call139 (c_must [41]) H (K2 Z1 Z1) (.tail D1) fun u10 ts11 H => Ny (Mv (ptr pb) (Cv call139 (c_must [61, 62]) H (K2 Z0 Z0) (.tail D1) fun u13 ts14 H => Ny (Mv (Iv t1.pos) (Mv (ptr q9) (Mv (ptr pb) (Cn call88 (hg (.typed) _ _ _ _) H (K2 Z0 Z0) (.tail D1) fun x16 ts17 q18 H => Bl 118 [ptr q9, ptr q18] (bs120_2 _ _ rfl rfl ) fun b19 => WL_made (k := 86) (s := []) (nu := 0) (a := t1.pos) rfl rfl (ent_kd2 (K3 Z0 Z3 Z0)) fun q20 => Av (ptr q20) (Nr ?_)))))))))))))))))))))
 try simp only [nr] at H
 exact At_ret1 results225 (fin_node H (K3 Z0 Z0 Z0) E0)
theorem n_primary (hK : K ≤ 274877906944) (hg : CG g) : ConM 257 [ptr pb] pb tb L cap [] (primaryM K g) resN := by
 intro ts r H F
 show ∀ w, Sat (PO pb tb L cap ts :: TB tb L :: F) w → _
 replace H := bpureH H
 unfold primaryM at H
 try simp only [nr] at H
 refine calls_of_WC (fn := f257) func257 rfl rfl (Sr (Av (.pointer none) (Ny (Mv (ptr pb) (WL.know (po_know Z0) fun hok => WL_callVm call85 rfl c_now H (K2 Z0 Z0) (fun _ _ h => ⟨rfl, h⟩) rfl (.tail E0) ?_)))))
 intro t1 ts2 hm H9
 clear H
 obtain ⟨htok, hts', rest', hrest⟩ := head_ok hok hm
 subst hts'
 have H := H9
 clear H9
 refine WL_ef (ef_alloc (l := [Iv 0, Tx [], Iv 0, Iv 0]) zeroValue47 rfl) fun b3 => Sa b3 0 [Iv t1.kind, Tx t1.text, Iv t1.pos, Iv t1.en] sizeOf47 Z0 (.put (.put (.put (.put .done)))) (Nz (Fa b3 0 fa47_0 (Lo b3 0 (Iv t1.kind) isAgg3 Z0 rfl (Nt (WC_block (Sr (Bo (Iv t1.kind) (Iv 3) (.bool (t1.kind == 3)) eqg_int (binOp_eql _ _ _ _) (Av (.bool (t1.kind == 3)) (Nt ?_)))))))))
 cases hb4 : (t1.kind == 3)
 rotate_left 1
 · try simp only [nr, hb4] at H
   refine Ts (Mv (ptr pb) (Cv call178 (c_next) H (K2 Z1 Z1) (.tail D1) fun t61 ts62 H => Nt (WC_seq (WC_draw [6] [Cl b3 47 [Iv t1.kind, Tx t1.text, Iv t1.pos, Iv t1.en]] mixed (Dt 0 rfl rfl (Q0 (K1 Z2)) (Rf b3 0 fa47_1 rfl) (Dt 1 rfl rfl (Q0 (K1 Z2)) (Rl b3 1 (Tx t1.text) isAgg9 rfl Z0 rfl) (Dt 3 rfl rfl (Q0 (K1 Z2)) (Rf b3 0 fa47_2 rfl) (Dt 4 rfl rfl (Q0 (K1 Z2)) (Rl b3 2 (Iv t1.pos) isAgg3 rfl Z0 rfl) (WD_callP 2 (by kernel_rfl) rfl rfl rfl (Δ0 := []) (Δ := []) (v := Iv (numOf t1.text)) (run_call call226 (args_map (args := [Tx t1.text]) rfl)) (c_numberT htok (by simpa using hb4)) .nil (Q0 (K1 Z2)) (WD_made 5 (by kernel_rfl) rfl rfl rfl (run_call call84 (args_map (args := [Iv 10, Tx [], Iv (numOf t1.text), Iv t1.pos, .slice none 0 0]) rfl)) rfl (ent_kd0) (Q0 (K1 Z2)) fun q64 => WD_rd 6 (by kernel_rfl) rfl rfl rfl (Ra (ptr q64) rfl) (late_vac (i := 6) (by kernel_rfl) (by decide)) ?_))))))))))
   refine WD_done (by kernel_rfl) ?_ _
   refine At_then (WC_ret (At_blockR (At_thenR ?_)))
   try simp only [nr] at H
   exact At_ret1 results257 (fin_node H (K3 Z0 Z0 Z0) D1)
 try simp only [nr, hb4] at H
 refine WC_false rfl (Sr (Bo (Iv t1.kind) (Iv 4) (.bool (t1.kind == 4)) eqg_int (binOp_eql _ _ _ _) (Av (.bool (t1.kind == 4)) (Nt ?_))))
 cases hb5 : (t1.kind == 4)
 rotate_left 1
 · try simp only [nr, hb5] at H
   refine Ts (Mv (ptr pb) (Cv call178 (c_next) H (K2 Z1 Z1) (.tail D1) fun t57 ts58 H => Ny (Fa b3 0 fa47_1 (Lo b3 1 (Tx t1.text) isAgg9 Z2 rfl (Fa b3 0 fa47_2 (Lo b3 2 (Iv t1.pos) isAgg3 Z2 rfl (WL_made (k := 11) (s := t1.text) (nu := 0) (a := t1.pos) rfl rfl (ent_kd0) fun q60 => Av (ptr q60) (Nr (At_blockR (At_thenR ?_))))))))))
   try simp only [nr] at H
   exact At_ret1 results257 (fin_node H (K3 Z0 Z0 Z0) D1)
 try simp only [nr, hb5] at H
 refine WC_false rfl (Sz (Bo (Iv t1.kind) (Iv 5) (.bool (t1.kind == 5)) eqg_int (binOp_eql _ _ _ _) (Av (.bool (t1.kind == 5)) (Nt ?_))))
 cases hb6 : (t1.kind == 5)
 rotate_left 1
 · try simp only [nr, hb6] at H
   refine WC_true rfl (WC_skip (At_then (Ts (Mv (ptr pb) (Cn call263 (hg (.template) _ _ _ _) H (K2 Z1 Z1) (.tail D1) fun x54 ts55 q56 H => Av (ptr q56) (Nr (At_blockR (At_thenR ?_))))))))
   try simp only [nr] at H
   exact At_ret1 results257 (fin_node H (K3 Z0 Z0 Z0) D1)
 try simp only [nr, hb6] at H
 refine WC_false rfl (WC_region (Bo (Iv t1.kind) (Iv 6) (.bool (t1.kind == 6)) eqg_int (binOp_eql _ _ _ _) (Av (.bool (t1.kind == 6)) (Nt ?_))))
 cases hb7 : (t1.kind == 6)
 rotate_left 1
 · try simp only [nr, hb7] at H
   refine Ts (Mv (ptr pb) (Cn call263 (hg (.template) _ _ _ _) H (K2 Z1 Z1) (.tail D1) fun x51 ts52 q53 H => Av (ptr q53) (Nr (At_blockR (At_thenR ?_)))))
   try simp only [nr] at H
   exact At_ret1 results257 (fin_node H (K3 Z0 Z0 Z0) D1)
 try simp only [nr, hb7] at H
 refine WC_false rfl (Sr (Bo (Iv t1.kind) (Iv 1) (.bool (t1.kind == 1)) eqg_int (binOp_eql _ _ _ _) (Av (.bool (t1.kind == 1)) (Nt ?_))))
 cases hb8 : (t1.kind == 1)
 rotate_left 1
 · try simp only [nr, hb8] at H
   refine Ts (Mv (ptr pb) (Cv call178 (c_next) H (K2 Z1 Z1) (.tail D1) fun t47 ts48 H => Ny (Fa b3 0 fa47_1 (Lo b3 1 (Tx t1.text) isAgg9 Z2 rfl (Fa b3 0 fa47_2 (Lo b3 2 (Iv t1.pos) isAgg3 Z2 rfl (WL_made (k := 17) (s := t1.text) (nu := 0) (a := t1.pos) rfl rfl (ent_kd0) fun q50 => Av (ptr q50) (Nr (At_blockR (At_thenR ?_))))))))))
   try simp only [nr] at H
   exact At_ret1 results257 (fin_node H (K3 Z0 Z0 Z0) D1)
 try simp only [nr, hb8] at H
 refine WC_false rfl (Sr (Bo (Iv t1.kind) (Iv 2) (.bool (t1.kind == 2)) eqg_int (binOp_eql _ _ _ _) (Av (.bool (t1.kind == 2)) (Nt ?_))))
 cases hb9 : (t1.kind == 2)
 rotate_left 1
 · try simp only [nr, hb9] at H
   refine Ts (Mv (ptr pb) (WL_rd (rd_loadN (b := b3) (o := 0) (vs := [Iv t1.kind, Tx t1.text, Iv t1.pos, Iv t1.en]) isAgg47 sizeOf47 rfl Z0 rfl rfl) (Cn call264 (hg (.worded t1) _ _ _ _) H (K2 Z1 Z1) (.tail D1) fun x44 ts45 q46 H => Av (ptr q46) (Nr (At_blockR (At_thenR ?_))))))
   try simp only [nr] at H
   exact At_ret1 results257 (fin_node H (K3 Z0 Z0 Z0) D1)
 try simp only [nr, hb9] at H
 refine WC_false rfl (WC_skip (At_blockN (At_then (WC_seq (WC_block (Sr (Mv (ptr pb) (Cv call134 (c_take [40]) H (K2 Z1 Z1) (.tail D1) fun b10 ts11 H => Av (.bool b10) (Nt ?_)))))))))
 cases hb13 : (b10)
 rotate_left 1
 · try simp only [nr, hb13] at H
   refine Ts (Mv (ptr pb) (Cn call87 (hg (.expr) _ _ _ _) H (K2 Z0 Z0) (.tail D1) fun x38 ts39 q40 H => Av (ptr q40) (Ny (Mv (ptr pb) (Cv call139 (c_must [41]) H (K2 Z1 Z1) (.tail D2) fun u41 ts42 H => Ny (Mv (ptr q40) (Av (ptr q40) (Nr (At_blockR (At_thenR ?_))))))))))
   try simp only [nr] at H
   exact At_ret1 results257 (fin_node H (K3 Z2 Z0 Z0) D1)
 try simp only [nr, hb13] at H
 refine WC_false rfl (Sr (Mv (ptr pb) (Cv call134 (c_take [91]) H (K2 Z0 Z0) (.tail D1) fun b14 ts15 H => Av (.bool b14) (Nt ?_))))
 cases hb17 : (b14)
 · try simp only [nr, hb17] at H
   refine WC_false rfl (WC_skip (At_blockN (At_then (Sr (Mv (ptr pb) (Cn call265 (hg (.object) _ _ _ _) H (K2 Z0 Z0) (.tail D1) fun x18 ts19 q20 H => Av (ptr q20) (Nr ?_)))))))
   try simp only [nr] at H
   exact At_ret1 results257 (fin_node H (K3 Z0 Z0 Z0) D1)
 try simp only [nr, hb17] at H
 refine Ts (Fa b3 0 fa47_2 (Lo b3 2 (Iv t1.pos) isAgg3 Z2 rfl (WL_made (k := 19) (s := []) (nu := 0) (a := t1.pos) rfl rfl (ent_kd0) fun q21 => Av (ptr q21) (Nz (Mv (ptr pb) (Cv call132 (c_is [93]) H (K2 Z1 Z1) (.tail D2) fun b22 ts23 H => WL_rd (rd_not (b := b22) rfl) (Nt ?_)))))))
 cases hb25 : (!b22)
 · try simp only [nr, hb25] at H
   refine Fx (Mv (ptr pb) (Cv call139 (c_must [93]) H (K2 Z0 Z0) (.tail D2) fun u26 ts27 H => Ny (Mv (ptr q21) (Av (ptr q21) (Nr (At_blockR (At_thenR ?_)))))))
   try simp only [nr] at H
   exact At_ret1 results257 (fin_node H (K3 Z2 Z0 Z0) D1)
 try simp only [nr, hb25] at H
 refine Tr (Mv (ptr q21) (Mv (ptr pb) (Mv (ptr pb) (WL_rd (rd_makeFunc (us := [ptr pb]) (vs := []) rfl rfl) (Cn call217 ((c_list (Y := Pr True) (fs := [ptr pb]) (cs := []) hK call87 ((hg .expr pb tb L cap).frame (Pr True))).unframe) H (K2 Z0 Z0) (.tail D2) fun x29 ts30 q31 H => Nc q31 0 (Fa q31 0 fa122_1 ?_))))))
 obtain ⟨k32, s32, n32, a32, l32⟩ := x29
 try simp only [nr] at H
 refine WL.openN Z0 fun v33 => Lo q31 5 (slV v33) isAgg120 Z0 rfl (Nc q21 0 (Fa q21 0 fa122_1 (WL.openN Z4 fun v34 => S1 q21 5 (slV v33) sizeOf120 Z0 (.skip (.skip (.skip (.skip (.skip (.put .done)))))) (Ny (Mv (ptr pb) (Cv call139 (c_must [93]) H (K2 Z4 Z4) (.tail (.dropHead D4)) fun u35 ts36 H => Ny (Mv (ptr q21) (Av (ptr q21) (Nr (At_blockR (At_thenR ?_)))))))))))
 try simp only [nr] at H
 refine At.ent (closeN (K2 Z2 Z4)) ?_
 exact At_ret1 results257 (fin_node H (K3 Z0 Z0 Z0) D3)
theorem n_given (hK : K ≤ 274877906944) (hg : CG g) : ConM 259 [ptr pb] pb tb L cap [] (givenM K g) resN := by
 intro ts r H F
 show ∀ w, Sat (PO pb tb L cap ts :: TB tb L :: F) w → _
 replace H := bpureH H
 unfold givenM at H
 try simp only [nr] at H
 refine calls_of_WC (fn := f259) func259 rfl rfl (Sr (Av (.pointer none) (Ny (Mv (ptr pb) (Cv call139 (c_must [40]) H (K2 Z0 Z0) (.tail E0) fun u1 ts2 H => Ny (Mv (ptr pb) (Cn call191 (c_empty) H (K2 Z0 Z0) (.tail E0) fun x8 ts9 q10 H => Av (ptr q10) (Nz (Mv (ptr pb) (Cv call132 (c_is [41]) H (K2 Z1 Z1) (.tail D1) fun b11 ts12 H => WL_rd (rd_not (b := b11) rfl) (Nt ?_)))))))))))
 cases hb14 : (!b11)
 · try simp only [nr, hb14] at H
   refine Fx (Mv (ptr pb) (Cv call139 (c_must [41]) H (K2 Z0 Z0) (.tail D1) fun u15 ts16 H => Ny (Mv (ptr q10) (Av (ptr q10) (Nr ?_)))))
   try simp only [nr] at H
   exact At_ret1 results259 (fin_node H (K3 Z2 Z0 Z0) E0)
 try simp only [nr, hb14] at H
 refine Tr (Mv (ptr pb) (Mv (ptr pb) (WL_rd (rd_makeFunc (us := [ptr pb]) (vs := []) rfl rfl) (Cn call217 ((c_list (Y := Pr True) (fs := [ptr pb]) (cs := []) hK call87 ((hg .expr pb tb L cap).frame (Pr True))).unframe) H (K2 Z0 Z0) (.tail D1) fun x18 ts19 q20 H => Av (ptr q20) (Ny (Mv (ptr pb) (Cv call139 (c_must [41]) H (K2 Z1 Z1) (.tail D2) fun u21 ts22 H => Ny (Mv (ptr q20) (Av (ptr q20) (Nr ?_))))))))))
 try simp only [nr] at H
 exact At_ret1 results259 (fin_node H (K3 Z2 Z0 Z0) D1)
theorem n_template (hK : K ≤ 274877906944) (hg : CG g) : ConM 263 [ptr pb] pb tb L cap [] (templateM K g) resN := by
 intro ts r H F
 show ∀ w, Sat (PO pb tb L cap ts :: TB tb L :: F) w → _
 replace H := bpureH H
 unfold templateM at H
 try simp only [nr] at H
 refine calls_of_WC (fn := f263) func263 rfl rfl (Sr (Av (.pointer none) (Ny (Mv (ptr pb) (Cv call178 (c_next) H (K2 Z0 Z0) (.tail E0) fun t1 ts2 H => WL_ef (ef_alloc (l := [Iv 0, Tx [], Iv 0, Iv 0]) zeroValue47 rfl) fun b4 => Sa b4 0 [Iv t1.kind, Tx t1.text, Iv t1.pos, Iv t1.en] sizeOf47 Z0 (.put (.put (.put (.put .done)))) (Nt (WC_seq (WC_draw [9] [Cl b4 47 [Iv t1.kind, Tx t1.text, Iv t1.pos, Iv t1.en]] mixed (Dt 0 rfl rfl (Q0 (K1 Z0)) (Rf b4 0 fa47_2 rfl) (Dt 1 rfl rfl (Q0 (K1 Z0)) (Rl b4 2 (Iv t1.pos) isAgg3 rfl Z0 rfl) (Dt 2 rfl rfl (Q0 (K1 Z0)) (Rf b4 0 fa47_1 rfl) (Dt 3 rfl rfl (Q0 (K1 Z0)) (Rl b4 1 (Tx t1.text) isAgg9 rfl Z0 rfl) (Dt 4 rfl rfl (Q0 (K1 Z0)) (Rf b4 0 fa47_2 rfl) (Dt 5 rfl rfl (Q0 (K1 Z0)) (Rl b4 2 (Iv t1.pos) isAgg3 rfl Z0 rfl) (WD_made 6 (by kernel_rfl) rfl rfl rfl (run_call call84 (args_map (args := [Iv 11, Tx t1.text, Iv 0, Iv t1.pos, .slice none 0 0]) rfl)) rfl (ent_kd0) (Q0 (K1 Z0)) fun q5 => WD_ef 7 (by kernel_rfl) rfl rfl rfl (ef_buildSlice (E := 118) (vs := [(0, ptr q5)]) (l := [ptr q5]) rfl (bs120_1 _ rfl )) (fun _ _ => Q0 (K1 Z2)) fun b6 => WD_made 8 (by kernel_rfl) rfl rfl rfl (run_call call84 (args_map (args := [Iv 12, Tx [], Iv 0, Iv t1.pos, Sl b6 1 1]) rfl)) rfl (ent_kd1 (K2 Z0 Z0)) (Q0 (K1 Z0)) fun q7 => WD_rd 9 (by kernel_rfl) rfl rfl rfl (Ra (ptr q7) rfl) (late_vac (i := 9) (by kernel_rfl) (by decide)) ?_)))))))))))))))
 refine WD_done (by kernel_rfl) ?_ _
 refine At_then (WC_seq (WC_block (WC_loopM (G := Nat × Tk × List PT) (fun x => x.2.2.length + 2 * x.1 ≤ 2 * K + 2) (fun x => tplM g x.1 x.2.1.kind x.2.2) (fun x => [(0, ptr pb), (2, .pointer none), (3, ptr b4), (4, ptr q7)]) (fun x ts => TN (PT.node 12 [] 0 t1.pos x.2.2) q7 :: Cl b4 47 [Iv x.2.1.kind, .string (bs x.2.1.text), Iv x.2.1.pos, Iv x.2.1.en] :: PO pb tb L cap ts :: TB tb L :: F) (fun x => x.1) (K, t1, [PT.node 11 t1.text 0 t1.pos []]) H (show [PT.node 11 t1.text 0 t1.pos []].length + 2 * K ≤ 2 * K + 2 by (try simp) <;> omega) ⟨rfl, rfl, rfl, rfl, trivial⟩ (E4 Z0 Z0 Z0 Z0) ?_)))
 rintro ⟨k, t8, acc9⟩ ts10 σ hpre H
 replace hpre : acc9.length + 2 * k ≤ 2 * K + 2 := hpre
 change (tplM g k t8.kind acc9 >>= _) _ = _ at H
 rcases k with _ | k
 · exact oofK H
 rw [tplM] at H
 try simp only [nr] at H
 show WC prog _ _ _ (upds σ [(0, ptr pb), (2, .pointer none), (3, ptr b4), (4, ptr q7)]) _ (TN (PT.node 12 [] 0 t1.pos acc9) q7 :: Cl b4 47 [Iv t8.kind, Tx t8.text, Iv t8.pos, Iv t8.en] :: PO pb tb L cap ts10 :: TB tb L :: F)
 refine Sz (Fa b4 0 fa47_0 (Lo b4 0 (Iv t8.kind) isAgg3 Z1 rfl (Bo (Iv t8.kind) (Iv 5) (.bool (t8.kind != 5)) eqg_int (binOp_neq _ _ _ _) (Mv (.bool (t8.kind != 5)) ?_))))
 cases hb11 : (t8.kind != 5)
 · try simp only [nr, hb11] at H
   refine Pa false 20 (Pa false 20 (Pa false 20 (Pk false (Nt (WC_false rfl (WC_exit (At_thenX (At_loopX (At_blockX (At_then (Sr (Mv (ptr q7) (Av (ptr q7) (Nr ?_))))))))))))))
   try simp only [nr] at H
   exact At_ret1 results263 (fin_node H (K3 Z0 Z1 Z1) D1)
 try simp only [nr, hb11] at H
 refine Ta true 20 (Fa b4 0 fa47_0 (Ta true 20 (Lo b4 0 (Iv t8.kind) isAgg3 Z1 rfl (Ta true 20 (Bo (Iv t8.kind) (Iv 8) (.bool (t8.kind != 8)) eqg_int (binOp_neq _ _ _ _) (Pk true (Nt ?_)))))))
 cases hb12 : (t8.kind != 8)
 · try simp only [nr, hb12] at H
   refine WC_false rfl (WC_exit (At_thenX (At_loopX (At_blockX (At_then (Sr (Mv (ptr q7) (Av (ptr q7) (Nr ?_)))))))))
   try simp only [nr] at H
   exact At_ret1 results263 (fin_node H (K3 Z0 Z1 Z1) D1)
 try simp only [nr, hb12] at H
 refine WC_true rfl (WC_skip (At_then (WC_block (WC_seq (WC.openN Z0 fun v13 => WC_draw [9, 10, 11] [Cl q7 122 [Iv 12, Tx [], Iv 0, .slice none 0 0, Iv t1.pos, slV v13]] mixed (Dt 0 rfl rfl (Q0 (K1 Z0)) (Rm (ptr q7) rfl) (Dt 1 rfl rfl (Q0 (K1 Z0)) (Rm (ptr q7) rfl) (Dt 2 rfl rfl (Q0 (K1 Z0)) (Rn q7 0 rfl) (Dt 3 rfl rfl (Q0 (K1 Z0)) (Rf q7 0 fa122_1 rfl) (Dt 4 rfl rfl (Q0 (K1 Z0)) (Rl q7 5 (slV v13) isAgg120 rfl Z0 rfl) (Dt 5 rfl rfl (Q0 (K1 Z0)) (Rm (ptr pb) rfl) (WD_callN 6 (by kernel_rfl) rfl rfl rfl (run_call call87 (args_map rfl)) (hg (.expr) _ _ _ _) H (K2 Z3 Z3) (fun _ _ h => ⟨rfl, h⟩) rfl (.tail D3) (Q0 (K1 Z0)) fun x14 ts15 q16 H => WD_ef 7 (by kernel_rfl) rfl rfl rfl (ef_buildSlice (E := 118) (vs := [(0, ptr q16)]) (l := [ptr q16]) rfl (bs120_1 _ rfl )) (fun _ _ => Q0 (K1 Z4)) fun b17 => WD_ef 8 (by kernel_rfl) rfl rfl rfl (ef_appendKid rfl rfl (K3 (.succ Z4) Z0 Z0) (by (try simp) <;> omega)) (fun _ _ => Q0 (K1 Z3)) fun v18 => WD_rd 9 (by kernel_rfl) rfl rfl rfl (Rn q7 0 rfl) (late_vac (i := 9) (by kernel_rfl) (by decide)) (WD_rd 10 (by kernel_rfl) rfl rfl rfl (Rf q7 0 fa122_1 rfl) (late_vac (i := 10) (by kernel_rfl) (by decide)) (WD_ef0 11 (by kernel_rfl) rfl rfl rfl (ef_store (b := q7) (o := 5) (v := slV v18) (vs := [slV v18]) sizeOf120 rfl rfl rfl rfl rfl Z3 (.skip (.skip (.skip (.skip (.skip (.put .done))))))) (late_vac (i := 11) (by kernel_rfl) (by decide)) ?_))))))))))))))
 refine WD_done (by kernel_rfl) ?_ _
 refine At_then (Sz (Mv (ptr pb) (Cv call85 (c_now) H (K2 Z2 Z2) (.tail D3) fun t19 ts20 H => WL_rd (rd_field (u := .agg #[Iv t19.kind, Tx t19.text, Iv t19.pos, Iv t19.en]) (v := Iv t19.kind) rfl (fv47_0 _ _ _ _ )) (Av (Iv t19.kind) (Ny (Mv (Iv t19.kind) (Bo (Iv t19.kind) (Iv 7) (.bool (t19.kind != 7)) eqg_int (binOp_neq _ _ _ _) (Mv (.bool (t19.kind != 7)) ?_))))))))
 cases hb22 : (t19.kind != 7)
 · try simp only [nr, hb22] at H
   refine Pa false 41 (Pa false 41 (Pk false (Nt (Fx (Mv (ptr pb) (Cv call178 (c_next) H (K2 Z0 Z0) (.tail D3) fun t23 ts24 H => Sa b4 0 [Iv t23.kind, Tx t23.text, Iv t23.pos, Iv t23.en] sizeOf47 Z4 (.put (.put (.put (.put .done)))) (Nt (WC_draw [12, 13, 14] [Cl q7 122 [Iv 12, Tx [], Iv 0, .slice none 0 0, Iv t1.pos, slV v18], Cl b4 47 [Iv t23.kind, Tx t23.text, Iv t23.pos, Iv t23.en]] mixed (Dt 0 rfl rfl (Q0 (K2 Z3 Z0)) (Rm (ptr q7) rfl) (Dt 1 rfl rfl (Q0 (K2 Z3 Z0)) (Rm (ptr q7) rfl) (Dt 2 rfl rfl (Q0 (K2 Z3 Z0)) (Rn q7 0 rfl) (Dt 3 rfl rfl (Q0 (K2 Z3 Z0)) (Rf q7 0 fa122_1 rfl) (Dt 4 rfl rfl (Q0 (K2 Z3 Z0)) (Rl q7 5 (slV v18) isAgg120 rfl Z0 rfl) (Dt 5 rfl rfl (Q0 (K2 Z3 Z0)) (Rf b4 0 fa47_1 rfl) (Dt 6 rfl rfl (Q0 (K2 Z3 Z0)) (Rl b4 1 (Tx t23.text) isAgg9 rfl Z1 rfl) (Dt 7 rfl rfl (Q0 (K2 Z3 Z0)) (Rf b4 0 fa47_2 rfl) (Dt 8 rfl rfl (Q0 (K2 Z3 Z0)) (Rl b4 2 (Iv t23.pos) isAgg3 rfl Z1 rfl) (WD_made 9 (by kernel_rfl) rfl rfl rfl (run_call call84 (args_map (args := [Iv 11, Tx t23.text, Iv 0, Iv t23.pos, .slice none 0 0]) rfl)) rfl (ent_kd0) (Q0 (K2 Z3 Z0)) fun q26 => WD_ef 10 (by kernel_rfl) rfl rfl rfl (ef_buildSlice (E := 118) (vs := [(0, ptr q26)]) (l := [ptr q26]) rfl (bs120_1 _ rfl )) (fun _ _ => Q0 (K2 (.succ Z4) Z2)) fun b27 => WD_ef 11 (by kernel_rfl) rfl rfl rfl (ef_appendKid rfl rfl (K3 (.succ (.succ Z4)) Z0 Z0) (by (try simp) <;> omega)) (fun _ _ => Q0 (K2 Z4 Z1)) fun v28 => WD_rd 12 (by kernel_rfl) rfl rfl rfl (Rn q7 0 rfl) (late_vac (i := 12) (by kernel_rfl) (by decide)) (WD_rd 13 (by kernel_rfl) rfl rfl rfl (Rf q7 0 fa122_1 rfl) (late_vac (i := 13) (by kernel_rfl) (by decide)) (WD_ef0 14 (by kernel_rfl) rfl rfl rfl (ef_store (b := q7) (o := 5) (v := slV v28) (vs := [slV v28]) sizeOf120 rfl rfl rfl rfl rfl Z4 (.skip (.skip (.skip (.skip (.skip (.put .done))))))) (late_vac (i := 14) (by kernel_rfl) (by decide)) ?_))))))))))))))))))))
   refine WD_done (by kernel_rfl) ?_ _
   refine At_blockN (At.ent (closeN (K2 Z0 Z0)) ?_)
   exact At_againM (k, t23, ((acc9 ++ [x14]) ++ [PT.node 11 t23.text 0 t23.pos []])) _ H (show ((acc9 ++ [x14]) ++ [PT.node 11 t23.text 0 t23.pos []]).length + 2 * k ≤ 2 * K + 2 by (try simp) <;> omega) ⟨rfl, rfl, rfl, rfl, trivial⟩ (E4 Z0 Z0 Z0 Z0) (Nat.lt_succ_self _)
 try simp only [nr, hb22] at H
 refine Ta true 41 (Mv (Iv t19.kind) (Ta true 41 (Bo (Iv t19.kind) (Iv 8) (.bool (t19.kind != 8)) eqg_int (binOp_neq _ _ _ _) (Pk true (Nt ?_)))))
 cases hb29 : (t19.kind != 8)
 rotate_left 1
 · try simp only [nr, hb29] at H
   refine Tr (Mv (ptr pb) ?_)
   exact WL_fail call89 rfl c_fail H (K2 Z0 Z0) (fun _ _ h => ⟨rfl, h⟩) rfl (.tail D3)
 try simp only [nr, hb29] at H
 refine Fx (Mv (ptr pb) (Cv call178 (c_next) H (K2 Z0 Z0) (.tail D3) fun t30 ts31 H => Sa b4 0 [Iv t30.kind, Tx t30.text, Iv t30.pos, Iv t30.en] sizeOf47 Z4 (.put (.put (.put (.put .done)))) (Nt (WC_draw [12, 13, 14] [Cl q7 122 [Iv 12, Tx [], Iv 0, .slice none 0 0, Iv t1.pos, slV v18], Cl b4 47 [Iv t30.kind, Tx t30.text, Iv t30.pos, Iv t30.en]] mixed (Dt 0 rfl rfl (Q0 (K2 Z3 Z0)) (Rm (ptr q7) rfl) (Dt 1 rfl rfl (Q0 (K2 Z3 Z0)) (Rm (ptr q7) rfl) (Dt 2 rfl rfl (Q0 (K2 Z3 Z0)) (Rn q7 0 rfl) (Dt 3 rfl rfl (Q0 (K2 Z3 Z0)) (Rf q7 0 fa122_1 rfl) (Dt 4 rfl rfl (Q0 (K2 Z3 Z0)) (Rl q7 5 (slV v18) isAgg120 rfl Z0 rfl) (Dt 5 rfl rfl (Q0 (K2 Z3 Z0)) (Rf b4 0 fa47_1 rfl) (Dt 6 rfl rfl (Q0 (K2 Z3 Z0)) (Rl b4 1 (Tx t30.text) isAgg9 rfl Z1 rfl) (Dt 7 rfl rfl (Q0 (K2 Z3 Z0)) (Rf b4 0 fa47_2 rfl) (Dt 8 rfl rfl (Q0 (K2 Z3 Z0)) (Rl b4 2 (Iv t30.pos) isAgg3 rfl Z1 rfl) (WD_made 9 (by kernel_rfl) rfl rfl rfl (run_call call84 (args_map (args := [Iv 11, Tx t30.text, Iv 0, Iv t30.pos, .slice none 0 0]) rfl)) rfl (ent_kd0) (Q0 (K2 Z3 Z0)) fun q33 => WD_ef 10 (by kernel_rfl) rfl rfl rfl (ef_buildSlice (E := 118) (vs := [(0, ptr q33)]) (l := [ptr q33]) rfl (bs120_1 _ rfl )) (fun _ _ => Q0 (K2 (.succ Z4) Z2)) fun b34 => WD_ef 11 (by kernel_rfl) rfl rfl rfl (ef_appendKid rfl rfl (K3 (.succ (.succ Z4)) Z0 Z0) (by (try simp) <;> omega)) (fun _ _ => Q0 (K2 Z4 Z1)) fun v35 => WD_rd 12 (by kernel_rfl) rfl rfl rfl (Rn q7 0 rfl) (late_vac (i := 12) (by kernel_rfl) (by decide)) (WD_rd 13 (by kernel_rfl) rfl rfl rfl (Rf q7 0 fa122_1 rfl) (late_vac (i := 13) (by kernel_rfl) (by decide)) (WD_ef0 14 (by kernel_rfl) rfl rfl rfl (ef_store (b := q7) (o := 5) (v := slV v35) (vs := [slV v35]) sizeOf120 rfl rfl rfl rfl rfl Z4 (.skip (.skip (.skip (.skip (.skip (.put .done))))))) (late_vac (i := 14) (by kernel_rfl) (by decide)) ?_))))))))))))))))
 refine WD_done (by kernel_rfl) ?_ _
 refine At_blockN (At.ent (closeN (K2 Z0 Z0)) ?_)
 exact At_againM (k, t30, ((acc9 ++ [x14]) ++ [PT.node 11 t30.text 0 t30.pos []])) _ H (show ((acc9 ++ [x14]) ++ [PT.node 11 t30.text 0 t30.pos []]).length + 2 * k ≤ 2 * K + 2 by (try simp) <;> omega) ⟨rfl, rfl, rfl, rfl, trivial⟩ (E4 Z0 Z0 Z0 Z0) (Nat.lt_succ_self _)
theorem n_object (hK : K ≤ 274877906944) (hg : CG g) : ConM 265 [ptr pb] pb tb L cap [] (objectM K g) resN := by
 intro ts r H F
 show ∀ w, Sat (PO pb tb L cap ts :: TB tb L :: F) w → _
 replace H := bpureH H
 unfold objectM at H
 try simp only [nr] at H
 refine calls_of_WC (fn := f265) func265 rfl rfl (Sr (Av (.pointer none) (Nt (WC_scope0 0 rfl (Sr (Mv (ptr pb) (Cv call85 (c_now) H (K2 Z0 Z0) (.tail E0) fun t1 ts2 H => WL_rd (rd_field (u := .agg #[Iv t1.kind, Tx t1.text, Iv t1.pos, Iv t1.en]) (v := Iv t1.pos) rfl (fv47_2 _ _ _ _ )) (WL_made (k := 20) (s := []) (nu := 0) (a := t1.pos) rfl rfl (ent_kd0) fun q4 => Av (ptr q4) (Ny (Mv (ptr pb) (Cv call139 (c_must [123]) H (K2 Z1 Z1) (.tail D1) fun u5 ts6 H => Nt (WC_seq (WC_label (At_then (WC_seq (WC_block (WC_loopM (G := Nat × List PT) (fun x => x.2.length + 2 * x.1 ≤ 2 * K + 2) (fun x => pairsM g x.1 x.2) (fun x => [(0, ptr pb), (2, .pointer none), (3, ptr q4)]) (fun x ts => PO pb tb L cap ts :: TB tb L :: TN (PT.node 20 [] 0 t1.pos x.2) q4 :: F) (fun x => x.1) (K, []) H (show [].length + 2 * K ≤ 2 * K + 2 by (try simp) <;> omega) ⟨rfl, rfl, rfl, trivial⟩ (E3 Z0 Z0 Z0) ?_)))))))))))))))))
 rintro ⟨k, acc8⟩ ts9 σ hpre H
 replace hpre : acc8.length + 2 * k ≤ 2 * K + 2 := hpre
 change (pairsM g k acc8 >>= _) _ = _ at H
 rcases k with _ | k
 · exact oofK H
 rw [pairsM] at H
 try simp only [nr] at H
 show WC prog _ _ _ (upds σ [(0, ptr pb), (2, .pointer none), (3, ptr q4)]) _ (PO pb tb L cap ts9 :: TB tb L :: TN (PT.node 20 [] 0 t1.pos acc8) q4 :: F)
 refine Sz (Mv (ptr pb) (Cv call132 (c_is [125]) H (K2 Z0 Z0) (.tail D1) fun b10 ts11 H => WL_rd (rd_not (b := b10) rfl) (Nt ?_)))
 cases hb13 : (!b10)
 · try simp only [nr, hb13] at H
   refine WC_false rfl (WC_exit (At_thenX (At_loopX (At_blockX (At_then (Sr (Mv (ptr pb) (Cv call139 (c_must [125]) H (K2 Z0 Z0) (.tail D1) fun u14 ts15 H => Ny (Mv (ptr q4) (Av (ptr q4) (Nr (At_scopeR ?_))))))))))))
   try simp only [nr] at H
   exact At_ret1 results265 (fin_node H (K3 Z2 Z0 Z0) E0)
 try simp only [nr, hb13] at H
 refine WC_true rfl (WC_skip (At_then (WC_block (Sr (Mv (ptr pb) (Cv call85 (c_now) H (K2 Z0 Z0) (.tail D1) fun t17 ts18 H => WL_rd (rd_field (u := .agg #[Iv t17.kind, Tx t17.text, Iv t17.pos, Iv t17.en]) (v := Iv t17.pos) rfl (fv47_2 _ _ _ _ )) (Av (Iv t17.pos) (Ny (Mv (ptr pb) (Cv call184 (c_name) H (K2 Z0 Z0) (.tail D1) fun s20 ts21 H => Av (Tx s20) (Ny (Mv (Tx s20) (Mv (Iv t17.pos) (WL_made (k := 17) (s := s20) (nu := 0) (a := t17.pos) rfl rfl (ent_kd0) fun q23 => Av (ptr q23) (Nz (Mv (ptr pb) (Cv call134 (c_take [58]) H (K2 Z1 Z1) (.tail D2) fun b24 ts25 H => Nt ?_)))))))))))))))))
 cases hb27 : (b24)
 · try simp only [nr, hb27] at H
   refine Fs (WC_seq (WC.openN Z3 fun v28 => WC_draw [12, 13, 14] [Cl q4 122 [Iv 20, Tx [], Iv 0, .slice none 0 0, Iv t1.pos, slV v28]] mixed (Dt 0 rfl rfl (Q0 (K1 Z0)) (Rm (ptr q4) rfl) (Dt 1 rfl rfl (Q0 (K1 Z0)) (Rm (ptr q4) rfl) (Dt 2 rfl rfl (Q0 (K1 Z0)) (Rn q4 0 rfl) (Dt 3 rfl rfl (Q0 (K1 Z0)) (Rf q4 0 fa122_1 rfl) (Dt 4 rfl rfl (Q0 (K1 Z0)) (Rl q4 5 (slV v28) isAgg120 rfl Z0 rfl) (Dt 5 rfl rfl (Q0 (K1 Z0)) (Rm (Tx s20) rfl) (Dt 6 rfl rfl (Q0 (K1 Z0)) (Rm (Iv t17.pos) rfl) (Dt 7 rfl rfl (Q0 (K1 Z0)) (Rm (ptr q23) rfl) (WD_ef 8 (by kernel_rfl) rfl rfl rfl (ef_buildSlice (E := 118) (vs := [(0, ptr q23)]) (l := [ptr q23]) rfl (bs120_1 _ rfl )) (fun _ _ => Q0 (K1 Z1)) fun b29 => WD_made 9 (by kernel_rfl) rfl rfl rfl (run_call call84 (args_map (args := [Iv 21, Tx s20, Iv 0, Iv t17.pos, Sl b29 1 1]) rfl)) rfl (ent_kd1 (K2 Z0 Z4)) (Q0 (K1 Z0)) fun q30 => WD_ef 10 (by kernel_rfl) rfl rfl rfl (ef_buildSlice (E := 118) (vs := [(0, ptr q30)]) (l := [ptr q30]) rfl (bs120_1 _ rfl )) (fun _ _ => Q0 (K1 Z2)) fun b31 => WD_ef 11 (by kernel_rfl) rfl rfl rfl (ef_appendKid rfl rfl (K3 Z3 Z0 Z0) (by (try simp) <;> omega)) (fun _ _ => Q0 (K1 Z1)) fun v32 => WD_rd 12 (by kernel_rfl) rfl rfl rfl (Rn q4 0 rfl) (late_vac (i := 12) (by kernel_rfl) (by decide)) (WD_rd 13 (by kernel_rfl) rfl rfl rfl (Rf q4 0 fa122_1 rfl) (late_vac (i := 13) (by kernel_rfl) (by decide)) (WD_ef0 14 (by kernel_rfl) rfl rfl rfl (ef_store (b := q4) (o := 5) (v := slV v32) (vs := [slV v32]) sizeOf120 rfl rfl rfl rfl rfl Z1 (.skip (.skip (.skip (.skip (.skip (.put .done))))))) (late_vac (i := 14) (by kernel_rfl) (by decide)) ?_)))))))))))))
   refine WD_done (by kernel_rfl) ?_ _
   refine At_then (Sr (Mv (ptr pb) (Cv call134 (c_take [44]) H (K2 Z2 Z2) (.tail D2) fun b33 ts34 H => WL_rd (rd_not (b := b33) rfl) (Nt ?_))))
   cases hb36 : (!b33)
   · try simp only [nr, hb36] at H
     refine WC_false rfl (WC_skip (At_blockN (At.ent (closeN (K2 Z2 Z2)) ?_)))
     exact At_againM (k, (acc8 ++ [PT.node 21 s20 0 t17.pos [PT.node 17 s20 0 t17.pos []]])) _ H (show (acc8 ++ [PT.node 21 s20 0 t17.pos [PT.node 17 s20 0 t17.pos []]]).length + 2 * k ≤ 2 * K + 2 by (try simp) <;> omega) ⟨rfl, rfl, rfl, trivial⟩ (E3 Z1 Z1 Z0) (Nat.lt_succ_self _)
   try simp only [nr, hb36] at H
   refine WC_true rfl (WC_exit (At_blockY rfl (At_loopX (At_blockX (At_then (Sr (Mv (ptr pb) (Cv call139 (c_must [125]) H (K2 Z0 Z0) (.tail D2) fun u37 ts38 H => Ny (Mv (ptr q4) (Av (ptr q4) (Nr (At_scopeR ?_))))))))))))
   try simp only [nr] at H
   refine At.ent (closeN (K2 Z2 Z2)) ?_
   exact At_ret1 results265 (fin_node H (K3 Z0 Z0 Z0) E0)
 try simp only [nr, hb27] at H
 refine Tr (Mv (ptr pb) (Cn call87 (hg (.expr) _ _ _ _) H (K2 Z0 Z0) (.tail D2) fun x40 ts41 q42 H => Av (ptr q42) (Nt (WC_seq (WC.openN Z4 fun v43 => WC_draw [12, 13, 14] [Cl q4 122 [Iv 20, Tx [], Iv 0, .slice none 0 0, Iv t1.pos, slV v43]] mixed (Dt 0 rfl rfl (Q0 (K1 Z0)) (Rm (ptr q4) rfl) (Dt 1 rfl rfl (Q0 (K1 Z0)) (Rm (ptr q4) rfl) (Dt 2 rfl rfl (Q0 (K1 Z0)) (Rn q4 0 rfl) (Dt 3 rfl rfl (Q0 (K1 Z0)) (Rf q4 0 fa122_1 rfl) (Dt 4 rfl rfl (Q0 (K1 Z0)) (Rl q4 5 (slV v43) isAgg120 rfl Z0 rfl) (Dt 5 rfl rfl (Q0 (K1 Z0)) (Rm (Tx s20) rfl) (Dt 6 rfl rfl (Q0 (K1 Z0)) (Rm (Iv t17.pos) rfl) (Dt 7 rfl rfl (Q0 (K1 Z0)) (Rm (ptr q42) rfl) (WD_ef 8 (by kernel_rfl) rfl rfl rfl (ef_buildSlice (E := 118) (vs := [(0, ptr q42)]) (l := [ptr q42]) rfl (bs120_1 _ rfl )) (fun _ _ => Q0 (K1 Z1)) fun b44 => WD_made 9 (by kernel_rfl) rfl rfl rfl (run_call call84 (args_map (args := [Iv 21, Tx s20, Iv 0, Iv t17.pos, Sl b44 1 1]) rfl)) rfl (ent_kd1 (K2 Z0 Z2)) (Q0 (K1 Z0)) fun q45 => WD_ef 10 (by kernel_rfl) rfl rfl rfl (ef_buildSlice (E := 118) (vs := [(0, ptr q45)]) (l := [ptr q45]) rfl (bs120_1 _ rfl )) (fun _ _ => Q0 (K1 Z2)) fun b46 => WD_ef 11 (by kernel_rfl) rfl rfl rfl (ef_appendKid rfl rfl (K3 Z3 Z0 Z0) (by (try simp) <;> omega)) (fun _ _ => Q0 (K1 Z1)) fun v47 => WD_rd 12 (by kernel_rfl) rfl rfl rfl (Rn q4 0 rfl) (late_vac (i := 12) (by kernel_rfl) (by decide)) (WD_rd 13 (by kernel_rfl) rfl rfl rfl (Rf q4 0 fa122_1 rfl) (late_vac (i := 13) (by kernel_rfl) (by decide)) (WD_ef0 14 (by kernel_rfl) rfl rfl rfl (ef_store (b := q4) (o := 5) (v := slV v47) (vs := [slV v47]) sizeOf120 rfl rfl rfl rfl rfl Z1 (.skip (.skip (.skip (.skip (.skip (.put .done))))))) (late_vac (i := 14) (by kernel_rfl) (by decide)) ?_))))))))))))))))
 refine WD_done (by kernel_rfl) ?_ _
 refine At_then (Sr (Mv (ptr pb) (Cv call134 (c_take [44]) H (K2 Z2 Z2) (.tail D3) fun b48 ts49 H => WL_rd (rd_not (b := b48) rfl) (Nt ?_))))
 cases hb51 : (!b48)
 · try simp only [nr, hb51] at H
   refine WC_false rfl (WC_skip (At_blockN (At.ent (closeN (K2 Z2 Z2)) ?_)))
   exact At_againM (k, (acc8 ++ [PT.node 21 s20 0 t17.pos [x40]])) _ H (show (acc8 ++ [PT.node 21 s20 0 t17.pos [x40]]).length + 2 * k ≤ 2 * K + 2 by (try simp) <;> omega) ⟨rfl, rfl, rfl, trivial⟩ (En Z1 (En Z1 (En Z0 D1))) (Nat.lt_succ_self _)
 try simp only [nr, hb51] at H
 refine WC_true rfl (WC_exit (At_blockY rfl (At_loopX (At_blockX (At_then (Sr (Mv (ptr pb) (Cv call139 (c_must [125]) H (K2 Z0 Z0) (.tail D3) fun u52 ts53 H => Ny (Mv (ptr q4) (Av (ptr q4) (Nr (At_scopeR ?_))))))))))))
 try simp only [nr] at H
 refine At.ent (closeN (K2 Z2 Z2)) ?_
 exact At_ret1 results265 (fin_node H (K3 Z0 Z0 Z0) D1)
end
end Go.Proofs
