/- Every nonterminal's contract, to every depth. -/
import Derived.Test.YtldagpopfebbbaaGreatDoorZE
import Derived.Test.YtldagpopfebbbaaGreatDoorZD
set_option linter.unusedVariables false
set_option linter.unusedSimpArgs false
namespace Go.Proofs
open Go.Px Tryz
section
variable {pb tb cap K : Nat} {L : List Tk} {g : NT → M PT}
theorem n_loop (hg : CG g) (a : Int) : ConM 137 [ptr pb, Iv a] pb tb L cap [] (loopM g a) resN := by
 intro ts r H F
 show ∀ w, Sat (PO pb tb L cap ts :: TB tb L :: F) w → _
 replace H := bpureH H
 unfold loopM at H
 try simp only [nr] at H
 refine calls_of_WC (fn := f137) func137 rfl rfl (Sr (WL_ef (ef_box (v := ptr pb) (l := [ptr pb]) rfl rfl) fun b1 => Av (.pointer none) (Ny (Lo b1 0 (ptr pb) isAgg113 Z0 rfl (Cv call139 (c_must [40]) H (K2 Z1 Z1) (.tail D1) fun u2 ts3 H => Nz (Lo b1 0 (ptr pb) isAgg113 Z2 rfl (Cv call132 (c_is [108, 101, 116]) H (K2 Z0 Z0) (.tail D1) fun b5 ts6 H => Mv (.bool b5) ?_)))))))
 cases hb8 : (b5)
 rotate_left 1
 · try simp only [nr, hb8] at H
   refine Pa true 17 (Pa true 17 (Pk true (Mv (.bool true) (Ta true 21 (Lo b1 0 (ptr pb) isAgg113 Z2 rfl (Ta true 21 (Cv call177 (c_then1) H (K2 Z0 Z0) (.tail D1) fun t182 ts183 H => Ta true 21 (WL_rd (rd_field (u := .agg #[Iv t182.kind, Tx t182.text, Iv t182.pos, Iv t182.en]) (v := Iv t182.kind) rfl (fv47_0 _ _ _ _ )) (Ta true 21 (Bo (Iv t182.kind) (Iv 1) (.bool (t182.kind == 1)) eqg_int (binOp_eql _ _ _ _) (Pk true (Mv (.bool (t182.kind == 1)) ?_))))))))))))
   cases hb185 : (t182.kind == 1)
   · try simp only [nr, hb185] at H
     refine Pa false 27 (Pa false 27 (Pa false 27 (Pk false (Nt (Fx (Lo b1 0 (ptr pb) isAgg113 Z2 rfl (Cn call188 (c_none) H (K2 Z0 Z0) (.tail D1) fun x186 ts187 q188 H => Av (ptr q188) (Nz (Lo b1 0 (ptr pb) isAgg113 Z3 rfl (Cv call85 (c_now) H (K2 Z1 Z1) (.tail D2) fun t189 ts190 H => WL_rd (rd_field (u := .agg #[Iv t189.kind, Tx t189.text, Iv t189.pos, Iv t189.en]) (v := Iv t189.pos) rfl (fv47_2 _ _ _ _ )) (Av (Iv t189.pos) (Ny (Lo b1 0 (ptr pb) isAgg113 Z3 rfl (Cv call134 (c_take [108, 101, 116]) H (K2 Z0 Z0) (.tail D2) fun b192 ts193 H => Nt ?_))))))))))))))
     cases hb195 : (b192)
     · try simp only [nr, hb195] at H
       refine Fx (Lo b1 0 (ptr pb) isAgg113 Z3 rfl (Cv call139 (c_must [59]) H (K2 Z0 Z0) (.tail D2) fun u196 ts197 H => Ny (WL_rd (rd_makeFunc (us := []) (vs := [ptr b1]) rfl rfl) (Av (.func (.func 189) [].toArray [ptr b1].toArray) (Ny (Mv (.func (.func 189) [].toArray [ptr b1].toArray) (WL_callVN call189 rfl (by first | rfl | simp) (c_may hg [59] b1) H (K3 Z0 Z0 Z1) (fun _ _ h => ⟨rfl, h⟩) rfl (.tail D2) fun x199 ts200 q201 H => Av (ptr q201) (Ny (Mv (.func (.func 189) [].toArray [ptr b1].toArray) (WL_callVN call189 rfl (by first | rfl | simp) (c_may hg [41] b1) H (K3 Z1 Z1 Z1) (fun _ _ h => ⟨rfl, h⟩) rfl (.tail D3) fun x202 ts203 q204 H => Av (ptr q204) (Ny (Mv (Iv a) (Mv (ptr q188) (Mv (ptr q201) (Mv (ptr q204) (Lo b1 0 (ptr pb) isAgg113 Z3 rfl (Cn call133 (hg (.block) _ _ _ _) H (K2 Z1 Z1) (.tail D4) fun x205 ts206 q207 H => Bl 118 [ptr q188, ptr q201, ptr q204, ptr q207] (bs120_4 _ _ _ _ rfl rfl rfl rfl ) fun b208 => WL_made (k := 55) (s := []) (nu := 0) (a := a) rfl rfl (ent_kd4 (.cons Z0 (K4 (.succ (.succ Z4)) (.succ Z4) Z3 Z0))) fun q209 => Av (ptr q209) (Nr ?_))))))))))))))))))
       try simp only [nr] at H
       exact At_ret1 results137 (fin_node H (K3 Z0 Z0 Z0) D1)
     try simp only [nr, hb195] at H
     refine Tr (Lo b1 0 (ptr pb) isAgg113 Z3 rfl (Mv (Iv t189.pos) (Cn call180 (hg (.variabl 0 t189.pos) _ _ _ _) H (K2 Z0 Z0) (.tail D2) fun x210 ts211 q212 H => Av (ptr q212) (Ny (Lo b1 0 (ptr pb) isAgg113 Z4 rfl (Cv call139 (c_must [59]) H (K2 Z1 Z1) (.tail D3) fun u213 ts214 H => Ny (WL_rd (rd_makeFunc (us := []) (vs := [ptr b1]) rfl rfl) (Av (.func (.func 189) [].toArray [ptr b1].toArray) (Ny (Mv (.func (.func 189) [].toArray [ptr b1].toArray) (WL_callVN call189 rfl (by first | rfl | simp) (c_may hg [59] b1) H (K3 Z0 Z0 Z2) (fun _ _ h => ⟨rfl, h⟩) rfl (.tail D3) fun x216 ts217 q218 H => Av (ptr q218) (Ny (Mv (.func (.func 189) [].toArray [ptr b1].toArray) (WL_callVN call189 rfl (by first | rfl | simp) (c_may hg [41] b1) H (K3 Z1 Z1 Z1) (fun _ _ h => ⟨rfl, h⟩) rfl (.tail D4) fun x219 ts220 q221 H => Av (ptr q221) (Ny (Mv (Iv a) (Mv (ptr q212) (Mv (ptr q218) (Mv (ptr q221) (Lo b1 0 (ptr pb) isAgg113 Z3 rfl (Cn call133 (hg (.block) _ _ _ _) H (K2 Z1 Z1) (.tail (.dropHead D4)) fun x222 ts223 q224 H => Bl 118 [ptr q212, ptr q218, ptr q221, ptr q224] (bs120_4 _ _ _ _ rfl rfl rfl rfl ) fun b225 => WL_made (k := 55) (s := []) (nu := 0) (a := a) rfl rfl (ent_kd4 (.cons Z0 (K4 (.succ (.succ Z4)) (.succ Z4) Z3 Z0))) fun q226 => Av (ptr q226) (Nr ?_))))))))))))))))))))))
     try simp only [nr] at H
     exact At_ret1 results137 (fin_node H (K3 Z0 Z0 Z0) D2)
   try simp only [nr, hb185] at H
   refine Ta true 27 (Lo b1 0 (ptr pb) isAgg113 Z2 rfl (Ta true 27 (Cv call177 (c_then2) H (K2 Z0 Z0) (.tail D1) fun t227 ts228 H => Ta true 27 (WL_callQ (Δ := []) (v := .bool (saysB t227 [111, 102])) call176 rfl (c_says t227 [111, 102]) .nil (Pk true (Nt ?_))))))
   cases hb230 : (saysB t227 [111, 102])
   rotate_left 1
   · try simp only [nr, hb230] at H
     refine Ts (Av (Iv 0) (Nz (Lo b1 0 (ptr pb) isAgg113 Z2 rfl (Cv call178 (c_next) H (K2 Z0 Z0) (.tail D1) fun t272 ts273 H => WL_rd (rd_field (u := .agg #[Iv t272.kind, Tx t272.text, Iv t272.pos, Iv t272.en]) (v := Tx t272.text) rfl (fv47_1 _ _ _ _ )) (Bo (Tx t272.text) (Tx [99, 111, 110, 115, 116]) (.bool (t272.text == [99, 111, 110, 115, 116])) eqg_str (bin_str_eql _ _) (Nt ?_))))))
     cases hb275 : (t272.text == [99, 111, 110, 115, 116])
     · try simp only [nr, hb275] at H
       refine Fx (Lo b1 0 (ptr pb) isAgg113 Z2 rfl (Cv call184 (c_name) H (K2 Z0 Z0) (.tail D1) fun s276 ts277 H => Av (Tx s276) (Ny (Lo b1 0 (ptr pb) isAgg113 Z2 rfl (Cv call139 (c_must [111, 102]) H (K2 Z0 Z0) (.tail D1) fun u279 ts280 H => Ny (Lo b1 0 (ptr pb) isAgg113 Z2 rfl (Cn call87 (hg (.expr) _ _ _ _) H (K2 Z0 Z0) (.tail D1) fun x282 ts283 q284 H => Av (ptr q284) (Ny (Lo b1 0 (ptr pb) isAgg113 Z3 rfl (Cv call139 (c_must [41]) H (K2 Z1 Z1) (.tail D2) fun u285 ts286 H => Ny (Mv (Tx s276) (Mv (Iv 0) (Mv (Iv a) (Mv (ptr q284) (Lo b1 0 (ptr pb) isAgg113 Z3 rfl (Cn call133 (hg (.block) _ _ _ _) H (K2 Z0 Z0) (.tail D2) fun x288 ts289 q290 H => Bl 118 [ptr q284, ptr q290] (bs120_2 _ _ rfl rfl ) fun b291 => WL_made (k := 56) (s := s276) (nu := 0) (a := a) rfl rfl (ent_kd2 (K3 Z0 Z3 Z0)) fun q292 => Av (ptr q292) (Nr (At_thenR ?_))))))))))))))))))
       try simp only [nr] at H
       exact At_ret1 results137 (fin_node H (K3 Z0 Z0 Z0) D1)
     try simp only [nr, hb275] at H
     refine Tr (Av (Iv 1) (Ny (Lo b1 0 (ptr pb) isAgg113 Z2 rfl (Cv call184 (c_name) H (K2 Z0 Z0) (.tail D1) fun s293 ts294 H => Av (Tx s293) (Ny (Lo b1 0 (ptr pb) isAgg113 Z2 rfl (Cv call139 (c_must [111, 102]) H (K2 Z0 Z0) (.tail D1) fun u296 ts297 H => Ny (Lo b1 0 (ptr pb) isAgg113 Z2 rfl (Cn call87 (hg (.expr) _ _ _ _) H (K2 Z0 Z0) (.tail D1) fun x299 ts300 q301 H => Av (ptr q301) (Ny (Lo b1 0 (ptr pb) isAgg113 Z3 rfl (Cv call139 (c_must [41]) H (K2 Z1 Z1) (.tail D2) fun u302 ts303 H => Ny (Mv (Tx s293) (Mv (Iv 1) (Mv (Iv a) (Mv (ptr q301) (Lo b1 0 (ptr pb) isAgg113 Z3 rfl (Cn call133 (hg (.block) _ _ _ _) H (K2 Z0 Z0) (.tail D2) fun x305 ts306 q307 H => Bl 118 [ptr q301, ptr q307] (bs120_2 _ _ rfl rfl ) fun b308 => WL_made (k := 56) (s := s293) (nu := 1) (a := a) rfl rfl (ent_kd2 (K3 Z0 Z3 Z0)) fun q309 => Av (ptr q309) (Nr (At_thenR ?_))))))))))))))))))))
     try simp only [nr] at H
     exact At_ret1 results137 (fin_node H (K3 Z0 Z0 Z0) D1)
   try simp only [nr, hb230] at H
   refine Fx (Lo b1 0 (ptr pb) isAgg113 Z2 rfl (Cn call188 (c_none) H (K2 Z0 Z0) (.tail D1) fun x231 ts232 q233 H => Av (ptr q233) (Nz (Lo b1 0 (ptr pb) isAgg113 Z3 rfl (Cv call85 (c_now) H (K2 Z1 Z1) (.tail D2) fun t234 ts235 H => WL_rd (rd_field (u := .agg #[Iv t234.kind, Tx t234.text, Iv t234.pos, Iv t234.en]) (v := Iv t234.pos) rfl (fv47_2 _ _ _ _ )) (Av (Iv t234.pos) (Ny (Lo b1 0 (ptr pb) isAgg113 Z3 rfl (Cv call134 (c_take [108, 101, 116]) H (K2 Z0 Z0) (.tail D2) fun b237 ts238 H => Nt ?_)))))))))
   cases hb240 : (b237)
   · try simp only [nr, hb240] at H
     refine Fx (Lo b1 0 (ptr pb) isAgg113 Z3 rfl (Cv call139 (c_must [59]) H (K2 Z0 Z0) (.tail D2) fun u241 ts242 H => Ny (WL_rd (rd_makeFunc (us := []) (vs := [ptr b1]) rfl rfl) (Av (.func (.func 189) [].toArray [ptr b1].toArray) (Ny (Mv (.func (.func 189) [].toArray [ptr b1].toArray) (WL_callVN call189 rfl (by first | rfl | simp) (c_may hg [59] b1) H (K3 Z0 Z0 Z1) (fun _ _ h => ⟨rfl, h⟩) rfl (.tail D2) fun x244 ts245 q246 H => Av (ptr q246) (Ny (Mv (.func (.func 189) [].toArray [ptr b1].toArray) (WL_callVN call189 rfl (by first | rfl | simp) (c_may hg [41] b1) H (K3 Z1 Z1 Z1) (fun _ _ h => ⟨rfl, h⟩) rfl (.tail D3) fun x247 ts248 q249 H => Av (ptr q249) (Ny (Mv (Iv a) (Mv (ptr q233) (Mv (ptr q246) (Mv (ptr q249) (Lo b1 0 (ptr pb) isAgg113 Z3 rfl (Cn call133 (hg (.block) _ _ _ _) H (K2 Z1 Z1) (.tail D4) fun x250 ts251 q252 H => Bl 118 [ptr q233, ptr q246, ptr q249, ptr q252] (bs120_4 _ _ _ _ rfl rfl rfl rfl ) fun b253 => WL_made (k := 55) (s := []) (nu := 0) (a := a) rfl rfl (ent_kd4 (.cons Z0 (K4 (.succ (.succ Z4)) (.succ Z4) Z3 Z0))) fun q254 => Av (ptr q254) (Nr ?_))))))))))))))))))
     try simp only [nr] at H
     exact At_ret1 results137 (fin_node H (K3 Z0 Z0 Z0) D1)
   try simp only [nr, hb240] at H
   refine Tr (Lo b1 0 (ptr pb) isAgg113 Z3 rfl (Mv (Iv t234.pos) (Cn call180 (hg (.variabl 0 t234.pos) _ _ _ _) H (K2 Z0 Z0) (.tail D2) fun x255 ts256 q257 H => Av (ptr q257) (Ny (Lo b1 0 (ptr pb) isAgg113 Z4 rfl (Cv call139 (c_must [59]) H (K2 Z1 Z1) (.tail D3) fun u258 ts259 H => Ny (WL_rd (rd_makeFunc (us := []) (vs := [ptr b1]) rfl rfl) (Av (.func (.func 189) [].toArray [ptr b1].toArray) (Ny (Mv (.func (.func 189) [].toArray [ptr b1].toArray) (WL_callVN call189 rfl (by first | rfl | simp) (c_may hg [59] b1) H (K3 Z0 Z0 Z2) (fun _ _ h => ⟨rfl, h⟩) rfl (.tail D3) fun x261 ts262 q263 H => Av (ptr q263) (Ny (Mv (.func (.func 189) [].toArray [ptr b1].toArray) (WL_callVN call189 rfl (by first | rfl | simp) (c_may hg [41] b1) H (K3 Z1 Z1 Z1) (fun _ _ h => ⟨rfl, h⟩) rfl (.tail D4) fun x264 ts265 q266 H => Av (ptr q266) (Ny (Mv (Iv a) (Mv (ptr q257) (Mv (ptr q263) (Mv (ptr q266) (Lo b1 0 (ptr pb) isAgg113 Z3 rfl (Cn call133 (hg (.block) _ _ _ _) H (K2 Z1 Z1) (.tail (.dropHead D4)) fun x267 ts268 q269 H => Bl 118 [ptr q257, ptr q263, ptr q266, ptr q269] (bs120_4 _ _ _ _ rfl rfl rfl rfl ) fun b270 => WL_made (k := 55) (s := []) (nu := 0) (a := a) rfl rfl (ent_kd4 (.cons Z0 (K4 (.succ (.succ Z4)) (.succ Z4) Z3 Z0))) fun q271 => Av (ptr q271) (Nr ?_))))))))))))))))))))))
   try simp only [nr] at H
   exact At_ret1 results137 (fin_node H (K3 Z0 Z0 Z0) D2)
 try simp only [nr, hb8] at H
 refine Ta false 17 (Lo b1 0 (ptr pb) isAgg113 Z2 rfl (Ta false 17 (Cv call132 (c_is [99, 111, 110, 115, 116]) H (K2 Z0 Z0) (.tail D1) fun b9 ts10 H => Pk false (Mv (.bool b9) ?_))))
 cases hb12 : (b9)
 · try simp only [nr, hb12] at H
   refine Pa false 21 (Pa false 21 (Pa false 21 (Pa false 21 (Pk false (Mv (.bool false) (Pa false 27 (Pa false 27 (Pa false 27 (Pk false (Nt (Fx (Lo b1 0 (ptr pb) isAgg113 Z2 rfl (Cn call188 (c_none) H (K2 Z0 Z0) (.tail D1) fun x13 ts14 q15 H => Av (ptr q15) (Nz (Lo b1 0 (ptr pb) isAgg113 Z3 rfl (Cv call85 (c_now) H (K2 Z1 Z1) (.tail D2) fun t16 ts17 H => WL_rd (rd_field (u := .agg #[Iv t16.kind, Tx t16.text, Iv t16.pos, Iv t16.en]) (v := Iv t16.pos) rfl (fv47_2 _ _ _ _ )) (Av (Iv t16.pos) (Ny (Lo b1 0 (ptr pb) isAgg113 Z3 rfl (Cv call134 (c_take [108, 101, 116]) H (K2 Z0 Z0) (.tail D2) fun b19 ts20 H => Nt ?_))))))))))))))))))))
   cases hb22 : (b19)
   · try simp only [nr, hb22] at H
     refine Fx (Lo b1 0 (ptr pb) isAgg113 Z3 rfl (Cv call139 (c_must [59]) H (K2 Z0 Z0) (.tail D2) fun u23 ts24 H => Ny (WL_rd (rd_makeFunc (us := []) (vs := [ptr b1]) rfl rfl) (Av (.func (.func 189) [].toArray [ptr b1].toArray) (Ny (Mv (.func (.func 189) [].toArray [ptr b1].toArray) (WL_callVN call189 rfl (by first | rfl | simp) (c_may hg [59] b1) H (K3 Z0 Z0 Z1) (fun _ _ h => ⟨rfl, h⟩) rfl (.tail D2) fun x26 ts27 q28 H => Av (ptr q28) (Ny (Mv (.func (.func 189) [].toArray [ptr b1].toArray) (WL_callVN call189 rfl (by first | rfl | simp) (c_may hg [41] b1) H (K3 Z1 Z1 Z1) (fun _ _ h => ⟨rfl, h⟩) rfl (.tail D3) fun x29 ts30 q31 H => Av (ptr q31) (Ny (Mv (Iv a) (Mv (ptr q15) (Mv (ptr q28) (Mv (ptr q31) (Lo b1 0 (ptr pb) isAgg113 Z3 rfl (Cn call133 (hg (.block) _ _ _ _) H (K2 Z1 Z1) (.tail D4) fun x32 ts33 q34 H => Bl 118 [ptr q15, ptr q28, ptr q31, ptr q34] (bs120_4 _ _ _ _ rfl rfl rfl rfl ) fun b35 => WL_made (k := 55) (s := []) (nu := 0) (a := a) rfl rfl (ent_kd4 (.cons Z0 (K4 (.succ (.succ Z4)) (.succ Z4) Z3 Z0))) fun q36 => Av (ptr q36) (Nr ?_))))))))))))))))))
     try simp only [nr] at H
     exact At_ret1 results137 (fin_node H (K3 Z0 Z0 Z0) D1)
   try simp only [nr, hb22] at H
   refine Tr (Lo b1 0 (ptr pb) isAgg113 Z3 rfl (Mv (Iv t16.pos) (Cn call180 (hg (.variabl 0 t16.pos) _ _ _ _) H (K2 Z0 Z0) (.tail D2) fun x37 ts38 q39 H => Av (ptr q39) (Ny (Lo b1 0 (ptr pb) isAgg113 Z4 rfl (Cv call139 (c_must [59]) H (K2 Z1 Z1) (.tail D3) fun u40 ts41 H => Ny (WL_rd (rd_makeFunc (us := []) (vs := [ptr b1]) rfl rfl) (Av (.func (.func 189) [].toArray [ptr b1].toArray) (Ny (Mv (.func (.func 189) [].toArray [ptr b1].toArray) (WL_callVN call189 rfl (by first | rfl | simp) (c_may hg [59] b1) H (K3 Z0 Z0 Z2) (fun _ _ h => ⟨rfl, h⟩) rfl (.tail D3) fun x43 ts44 q45 H => Av (ptr q45) (Ny (Mv (.func (.func 189) [].toArray [ptr b1].toArray) (WL_callVN call189 rfl (by first | rfl | simp) (c_may hg [41] b1) H (K3 Z1 Z1 Z1) (fun _ _ h => ⟨rfl, h⟩) rfl (.tail D4) fun x46 ts47 q48 H => Av (ptr q48) (Ny (Mv (Iv a) (Mv (ptr q39) (Mv (ptr q45) (Mv (ptr q48) (Lo b1 0 (ptr pb) isAgg113 Z3 rfl (Cn call133 (hg (.block) _ _ _ _) H (K2 Z1 Z1) (.tail (.dropHead D4)) fun x49 ts50 q51 H => Bl 118 [ptr q39, ptr q45, ptr q48, ptr q51] (bs120_4 _ _ _ _ rfl rfl rfl rfl ) fun b52 => WL_made (k := 55) (s := []) (nu := 0) (a := a) rfl rfl (ent_kd4 (.cons Z0 (K4 (.succ (.succ Z4)) (.succ Z4) Z3 Z0))) fun q53 => Av (ptr q53) (Nr ?_))))))))))))))))))))))
   try simp only [nr] at H
   exact At_ret1 results137 (fin_node H (K3 Z0 Z0 Z0) D2)
 try simp only [nr, hb12] at H
 refine Ta true 21 (Lo b1 0 (ptr pb) isAgg113 Z2 rfl (Ta true 21 (Cv call177 (c_then1) H (K2 Z0 Z0) (.tail D1) fun t54 ts55 H => Ta true 21 (WL_rd (rd_field (u := .agg #[Iv t54.kind, Tx t54.text, Iv t54.pos, Iv t54.en]) (v := Iv t54.kind) rfl (fv47_0 _ _ _ _ )) (Ta true 21 (Bo (Iv t54.kind) (Iv 1) (.bool (t54.kind == 1)) eqg_int (binOp_eql _ _ _ _) (Pk true (Mv (.bool (t54.kind == 1)) ?_))))))))
 cases hb57 : (t54.kind == 1)
 · try simp only [nr, hb57] at H
   refine Pa false 27 (Pa false 27 (Pa false 27 (Pk false (Nt (Fx (Lo b1 0 (ptr pb) isAgg113 Z2 rfl (Cn call188 (c_none) H (K2 Z0 Z0) (.tail D1) fun x58 ts59 q60 H => Av (ptr q60) (Nz (Lo b1 0 (ptr pb) isAgg113 Z3 rfl (Cv call85 (c_now) H (K2 Z1 Z1) (.tail D2) fun t61 ts62 H => WL_rd (rd_field (u := .agg #[Iv t61.kind, Tx t61.text, Iv t61.pos, Iv t61.en]) (v := Iv t61.pos) rfl (fv47_2 _ _ _ _ )) (Av (Iv t61.pos) (Ny (Lo b1 0 (ptr pb) isAgg113 Z3 rfl (Cv call134 (c_take [108, 101, 116]) H (K2 Z0 Z0) (.tail D2) fun b64 ts65 H => Nt ?_))))))))))))))
   cases hb67 : (b64)
   · try simp only [nr, hb67] at H
     refine Fx (Lo b1 0 (ptr pb) isAgg113 Z3 rfl (Cv call139 (c_must [59]) H (K2 Z0 Z0) (.tail D2) fun u68 ts69 H => Ny (WL_rd (rd_makeFunc (us := []) (vs := [ptr b1]) rfl rfl) (Av (.func (.func 189) [].toArray [ptr b1].toArray) (Ny (Mv (.func (.func 189) [].toArray [ptr b1].toArray) (WL_callVN call189 rfl (by first | rfl | simp) (c_may hg [59] b1) H (K3 Z0 Z0 Z1) (fun _ _ h => ⟨rfl, h⟩) rfl (.tail D2) fun x71 ts72 q73 H => Av (ptr q73) (Ny (Mv (.func (.func 189) [].toArray [ptr b1].toArray) (WL_callVN call189 rfl (by first | rfl | simp) (c_may hg [41] b1) H (K3 Z1 Z1 Z1) (fun _ _ h => ⟨rfl, h⟩) rfl (.tail D3) fun x74 ts75 q76 H => Av (ptr q76) (Ny (Mv (Iv a) (Mv (ptr q60) (Mv (ptr q73) (Mv (ptr q76) (Lo b1 0 (ptr pb) isAgg113 Z3 rfl (Cn call133 (hg (.block) _ _ _ _) H (K2 Z1 Z1) (.tail D4) fun x77 ts78 q79 H => Bl 118 [ptr q60, ptr q73, ptr q76, ptr q79] (bs120_4 _ _ _ _ rfl rfl rfl rfl ) fun b80 => WL_made (k := 55) (s := []) (nu := 0) (a := a) rfl rfl (ent_kd4 (.cons Z0 (K4 (.succ (.succ Z4)) (.succ Z4) Z3 Z0))) fun q81 => Av (ptr q81) (Nr ?_))))))))))))))))))
     try simp only [nr] at H
     exact At_ret1 results137 (fin_node H (K3 Z0 Z0 Z0) D1)
   try simp only [nr, hb67] at H
   refine Tr (Lo b1 0 (ptr pb) isAgg113 Z3 rfl (Mv (Iv t61.pos) (Cn call180 (hg (.variabl 0 t61.pos) _ _ _ _) H (K2 Z0 Z0) (.tail D2) fun x82 ts83 q84 H => Av (ptr q84) (Ny (Lo b1 0 (ptr pb) isAgg113 Z4 rfl (Cv call139 (c_must [59]) H (K2 Z1 Z1) (.tail D3) fun u85 ts86 H => Ny (WL_rd (rd_makeFunc (us := []) (vs := [ptr b1]) rfl rfl) (Av (.func (.func 189) [].toArray [ptr b1].toArray) (Ny (Mv (.func (.func 189) [].toArray [ptr b1].toArray) (WL_callVN call189 rfl (by first | rfl | simp) (c_may hg [59] b1) H (K3 Z0 Z0 Z2) (fun _ _ h => ⟨rfl, h⟩) rfl (.tail D3) fun x88 ts89 q90 H => Av (ptr q90) (Ny (Mv (.func (.func 189) [].toArray [ptr b1].toArray) (WL_callVN call189 rfl (by first | rfl | simp) (c_may hg [41] b1) H (K3 Z1 Z1 Z1) (fun _ _ h => ⟨rfl, h⟩) rfl (.tail D4) fun x91 ts92 q93 H => Av (ptr q93) (Ny (Mv (Iv a) (Mv (ptr q84) (Mv (ptr q90) (Mv (ptr q93) (Lo b1 0 (ptr pb) isAgg113 Z3 rfl (Cn call133 (hg (.block) _ _ _ _) H (K2 Z1 Z1) (.tail (.dropHead D4)) fun x94 ts95 q96 H => Bl 118 [ptr q84, ptr q90, ptr q93, ptr q96] (bs120_4 _ _ _ _ rfl rfl rfl rfl ) fun b97 => WL_made (k := 55) (s := []) (nu := 0) (a := a) rfl rfl (ent_kd4 (.cons Z0 (K4 (.succ (.succ Z4)) (.succ Z4) Z3 Z0))) fun q98 => Av (ptr q98) (Nr ?_))))))))))))))))))))))
   try simp only [nr] at H
   exact At_ret1 results137 (fin_node H (K3 Z0 Z0 Z0) D2)
 try simp only [nr, hb57] at H
 refine Ta true 27 (Lo b1 0 (ptr pb) isAgg113 Z2 rfl (Ta true 27 (Cv call177 (c_then2) H (K2 Z0 Z0) (.tail D1) fun t99 ts100 H => Ta true 27 (WL_callQ (Δ := []) (v := .bool (saysB t99 [111, 102])) call176 rfl (c_says t99 [111, 102]) .nil (Pk true (Nt ?_))))))
 cases hb102 : (saysB t99 [111, 102])
 rotate_left 1
 · try simp only [nr, hb102] at H
   refine Ts (Av (Iv 0) (Nz (Lo b1 0 (ptr pb) isAgg113 Z2 rfl (Cv call178 (c_next) H (K2 Z0 Z0) (.tail D1) fun t144 ts145 H => WL_rd (rd_field (u := .agg #[Iv t144.kind, Tx t144.text, Iv t144.pos, Iv t144.en]) (v := Tx t144.text) rfl (fv47_1 _ _ _ _ )) (Bo (Tx t144.text) (Tx [99, 111, 110, 115, 116]) (.bool (t144.text == [99, 111, 110, 115, 116])) eqg_str (bin_str_eql _ _) (Nt ?_))))))
   cases hb147 : (t144.text == [99, 111, 110, 115, 116])
   · try simp only [nr, hb147] at H
     refine Fx (Lo b1 0 (ptr pb) isAgg113 Z2 rfl (Cv call184 (c_name) H (K2 Z0 Z0) (.tail D1) fun s148 ts149 H => Av (Tx s148) (Ny (Lo b1 0 (ptr pb) isAgg113 Z2 rfl (Cv call139 (c_must [111, 102]) H (K2 Z0 Z0) (.tail D1) fun u151 ts152 H => Ny (Lo b1 0 (ptr pb) isAgg113 Z2 rfl (Cn call87 (hg (.expr) _ _ _ _) H (K2 Z0 Z0) (.tail D1) fun x154 ts155 q156 H => Av (ptr q156) (Ny (Lo b1 0 (ptr pb) isAgg113 Z3 rfl (Cv call139 (c_must [41]) H (K2 Z1 Z1) (.tail D2) fun u157 ts158 H => Ny (Mv (Tx s148) (Mv (Iv 0) (Mv (Iv a) (Mv (ptr q156) (Lo b1 0 (ptr pb) isAgg113 Z3 rfl (Cn call133 (hg (.block) _ _ _ _) H (K2 Z0 Z0) (.tail D2) fun x160 ts161 q162 H => Bl 118 [ptr q156, ptr q162] (bs120_2 _ _ rfl rfl ) fun b163 => WL_made (k := 56) (s := s148) (nu := 0) (a := a) rfl rfl (ent_kd2 (K3 Z0 Z3 Z0)) fun q164 => Av (ptr q164) (Nr (At_thenR ?_))))))))))))))))))
     try simp only [nr] at H
     exact At_ret1 results137 (fin_node H (K3 Z0 Z0 Z0) D1)
   try simp only [nr, hb147] at H
   refine Tr (Av (Iv 1) (Ny (Lo b1 0 (ptr pb) isAgg113 Z2 rfl (Cv call184 (c_name) H (K2 Z0 Z0) (.tail D1) fun s165 ts166 H => Av (Tx s165) (Ny (Lo b1 0 (ptr pb) isAgg113 Z2 rfl (Cv call139 (c_must [111, 102]) H (K2 Z0 Z0) (.tail D1) fun u168 ts169 H => Ny (Lo b1 0 (ptr pb) isAgg113 Z2 rfl (Cn call87 (hg (.expr) _ _ _ _) H (K2 Z0 Z0) (.tail D1) fun x171 ts172 q173 H => Av (ptr q173) (Ny (Lo b1 0 (ptr pb) isAgg113 Z3 rfl (Cv call139 (c_must [41]) H (K2 Z1 Z1) (.tail D2) fun u174 ts175 H => Ny (Mv (Tx s165) (Mv (Iv 1) (Mv (Iv a) (Mv (ptr q173) (Lo b1 0 (ptr pb) isAgg113 Z3 rfl (Cn call133 (hg (.block) _ _ _ _) H (K2 Z0 Z0) (.tail D2) fun x177 ts178 q179 H => Bl 118 [ptr q173, ptr q179] (bs120_2 _ _ rfl rfl ) fun b180 => WL_made (k := 56) (s := s165) (nu := 1) (a := a) rfl rfl (ent_kd2 (K3 Z0 Z3 Z0)) fun q181 => Av (ptr q181) (Nr (At_thenR ?_))))))))))))))))))))
   try simp only [nr] at H
   exact At_ret1 results137 (fin_node H (K3 Z0 Z0 Z0) D1)
 try simp only [nr, hb102] at H
 refine Fx (Lo b1 0 (ptr pb) isAgg113 Z2 rfl (Cn call188 (c_none) H (K2 Z0 Z0) (.tail D1) fun x103 ts104 q105 H => Av (ptr q105) (Nz (Lo b1 0 (ptr pb) isAgg113 Z3 rfl (Cv call85 (c_now) H (K2 Z1 Z1) (.tail D2) fun t106 ts107 H => WL_rd (rd_field (u := .agg #[Iv t106.kind, Tx t106.text, Iv t106.pos, Iv t106.en]) (v := Iv t106.pos) rfl (fv47_2 _ _ _ _ )) (Av (Iv t106.pos) (Ny (Lo b1 0 (ptr pb) isAgg113 Z3 rfl (Cv call134 (c_take [108, 101, 116]) H (K2 Z0 Z0) (.tail D2) fun b109 ts110 H => Nt ?_)))))))))
 cases hb112 : (b109)
 · try simp only [nr, hb112] at H
   refine Fx (Lo b1 0 (ptr pb) isAgg113 Z3 rfl (Cv call139 (c_must [59]) H (K2 Z0 Z0) (.tail D2) fun u113 ts114 H => Ny (WL_rd (rd_makeFunc (us := []) (vs := [ptr b1]) rfl rfl) (Av (.func (.func 189) [].toArray [ptr b1].toArray) (Ny (Mv (.func (.func 189) [].toArray [ptr b1].toArray) (WL_callVN call189 rfl (by first | rfl | simp) (c_may hg [59] b1) H (K3 Z0 Z0 Z1) (fun _ _ h => ⟨rfl, h⟩) rfl (.tail D2) fun x116 ts117 q118 H => Av (ptr q118) (Ny (Mv (.func (.func 189) [].toArray [ptr b1].toArray) (WL_callVN call189 rfl (by first | rfl | simp) (c_may hg [41] b1) H (K3 Z1 Z1 Z1) (fun _ _ h => ⟨rfl, h⟩) rfl (.tail D3) fun x119 ts120 q121 H => Av (ptr q121) (Ny (Mv (Iv a) (Mv (ptr q105) (Mv (ptr q118) (Mv (ptr q121) (Lo b1 0 (ptr pb) isAgg113 Z3 rfl (Cn call133 (hg (.block) _ _ _ _) H (K2 Z1 Z1) (.tail D4) fun x122 ts123 q124 H => Bl 118 [ptr q105, ptr q118, ptr q121, ptr q124] (bs120_4 _ _ _ _ rfl rfl rfl rfl ) fun b125 => WL_made (k := 55) (s := []) (nu := 0) (a := a) rfl rfl (ent_kd4 (.cons Z0 (K4 (.succ (.succ Z4)) (.succ Z4) Z3 Z0))) fun q126 => Av (ptr q126) (Nr ?_))))))))))))))))))
   try simp only [nr] at H
   exact At_ret1 results137 (fin_node H (K3 Z0 Z0 Z0) D1)
 try simp only [nr, hb112] at H
 refine Tr (Lo b1 0 (ptr pb) isAgg113 Z3 rfl (Mv (Iv t106.pos) (Cn call180 (hg (.variabl 0 t106.pos) _ _ _ _) H (K2 Z0 Z0) (.tail D2) fun x127 ts128 q129 H => Av (ptr q129) (Ny (Lo b1 0 (ptr pb) isAgg113 Z4 rfl (Cv call139 (c_must [59]) H (K2 Z1 Z1) (.tail D3) fun u130 ts131 H => Ny (WL_rd (rd_makeFunc (us := []) (vs := [ptr b1]) rfl rfl) (Av (.func (.func 189) [].toArray [ptr b1].toArray) (Ny (Mv (.func (.func 189) [].toArray [ptr b1].toArray) (WL_callVN call189 rfl (by first | rfl | simp) (c_may hg [59] b1) H (K3 Z0 Z0 Z2) (fun _ _ h => ⟨rfl, h⟩) rfl (.tail D3) fun x133 ts134 q135 H => Av (ptr q135) (Ny (Mv (.func (.func 189) [].toArray [ptr b1].toArray) (WL_callVN call189 rfl (by first | rfl | simp) (c_may hg [41] b1) H (K3 Z1 Z1 Z1) (fun _ _ h => ⟨rfl, h⟩) rfl (.tail D4) fun x136 ts137 q138 H => Av (ptr q138) (Ny (Mv (Iv a) (Mv (ptr q129) (Mv (ptr q135) (Mv (ptr q138) (Lo b1 0 (ptr pb) isAgg113 Z3 rfl (Cn call133 (hg (.block) _ _ _ _) H (K2 Z1 Z1) (.tail (.dropHead D4)) fun x139 ts140 q141 H => Bl 118 [ptr q129, ptr q135, ptr q138, ptr q141] (bs120_4 _ _ _ _ rfl rfl rfl rfl ) fun b142 => WL_made (k := 55) (s := []) (nu := 0) (a := a) rfl rfl (ent_kd4 (.cons Z0 (K4 (.succ (.succ Z4)) (.succ Z4) Z3 Z0))) fun q143 => Av (ptr q143) (Nr ?_))))))))))))))))))))))
 try simp only [nr] at H
 exact At_ret1 results137 (fin_node H (K3 Z0 Z0 Z0) D2)
theorem n_ended (hg : CG g) (k a : Int) (m : Bool) : ConM 138 [ptr pb, Iv k, Iv a, .bool m] pb tb L cap [] (endedM g k a m) resN := by
 intro ts r H F
 show ∀ w, Sat (PO pb tb L cap ts :: TB tb L :: F) w → _
 replace H := bpureH H
 unfold endedM at H
 try simp only [nr] at H
 refine calls_of_WC (fn := f138) func138 rfl rfl (Sr (Av (.pointer none) (Ny (Mv (ptr pb) (Cn call188 (c_none) H (K2 Z0 Z0) (.tail E0) fun x1 ts2 q3 H => Av (ptr q3) (Nz (Mv (.bool m) (WL_rd (rd_not (b := m) rfl) (Mv (.bool (!m)) ?_)))))))))
 cases hb4 : (!m)
 · try simp only [nr, hb4] at H
   refine Ta false 14 (Mv (ptr pb) (Ta false 14 (Cv call132 (c_is [59]) H (K2 Z1 Z1) (.tail D1) fun b5 ts6 H => Ta false 14 (WL_rd (rd_not (b := b5) rfl) (Pk false (Nt ?_))))))
   cases hb8 : (!b5)
   · try simp only [nr, hb8] at H
     refine Fx (Mv (ptr pb) (Cv call139 (c_must [59]) H (K2 Z0 Z0) (.tail D1) fun u9 ts10 H => Ny (Mv (Iv k) (Mv (Iv a) (Mv (ptr q3) (Bl 118 [ptr q3] (bs120_1 _ rfl ) fun b12 => WL_made (k := k) (s := []) (nu := 0) (a := a) rfl rfl (ent_kd1 (K2 Z0 Z2)) fun q13 => Av (ptr q13) (Nr ?_)))))))
     try simp only [nr] at H
     exact At_ret1 results138 (fin_node H (K3 Z0 Z0 Z0) E0)
   try simp only [nr, hb8] at H
   refine Tr (Mv (ptr pb) (Cn call87 (hg (.expr) _ _ _ _) H (K2 Z0 Z0) (.tail D1) fun x14 ts15 q16 H => Av (ptr q16) (Ny (Mv (ptr pb) (Cv call139 (c_must [59]) H (K2 Z1 Z1) (.tail D2) fun u17 ts18 H => Ny (Mv (Iv k) (Mv (Iv a) (Mv (ptr q16) (Bl 118 [ptr q16] (bs120_1 _ rfl ) fun b20 => WL_made (k := k) (s := []) (nu := 0) (a := a) rfl rfl (ent_kd1 (K2 Z0 Z2)) fun q21 => Av (ptr q21) (Nr ?_))))))))))
   try simp only [nr] at H
   exact At_ret1 results138 (fin_node H (K3 Z0 Z0 Z0) D1)
 try simp only [nr, hb4] at H
 refine Pa true 14 (Pa true 14 (Pa true 14 (Pk true (Nt (Tr (Mv (ptr pb) (Cn call87 (hg (.expr) _ _ _ _) H (K2 Z1 Z1) (.tail D1) fun x22 ts23 q24 H => Av (ptr q24) (Ny (Mv (ptr pb) (Cv call139 (c_must [59]) H (K2 Z1 Z1) (.tail D2) fun u25 ts26 H => Ny (Mv (Iv k) (Mv (Iv a) (Mv (ptr q24) (Bl 118 [ptr q24] (bs120_1 _ rfl ) fun b28 => WL_made (k := k) (s := []) (nu := 0) (a := a) rfl rfl (ent_kd1 (K2 Z0 Z2)) fun q29 => Av (ptr q29) (Nr ?_)))))))))))))))
 try simp only [nr] at H
 exact At_ret1 results138 (fin_node H (K3 Z0 Z0 Z0) D1)
theorem n_tri (hg : CG g) (a : Int) : ConM 140 [ptr pb, Iv a] pb tb L cap [] (triM g a) resN := by
 intro ts r H F
 show ∀ w, Sat (PO pb tb L cap ts :: TB tb L :: F) w → _
 replace H := bpureH H
 unfold triM at H
 try simp only [nr] at H
 refine calls_of_WC (fn := f140) func140 rfl rfl (Sr (Av (.pointer none) (Ny (Mv (ptr pb) (Cn call133 (hg (.block) _ _ _ _) H (K2 Z0 Z0) (.tail E0) fun x1 ts2 q3 H => Av (ptr q3) (Ny (Mv (ptr pb) (Cn call188 (c_none) H (K2 Z1 Z1) (.tail D1) fun x4 ts5 q6 H => Av (ptr q6) (Nz (Mv (ptr pb) (Cv call85 (c_now) H (K2 Z1 Z1) (.tail D2) fun t7 ts8 H => WL_rd (rd_field (u := .agg #[Iv t7.kind, Tx t7.text, Iv t7.pos, Iv t7.en]) (v := Iv t7.pos) rfl (fv47_2 _ _ _ _ )) (Av (Iv t7.pos) (Ny (Mv (ptr pb) (Cv call134 (c_take [99, 97, 116, 99, 104]) H (K2 Z0 Z0) (.tail D2) fun b10 ts11 H => Nt ?_)))))))))))))))
 cases hb13 : (b10)
 rotate_left 1
 · try simp only [nr, hb13] at H
   refine Ts (Mv (ptr pb) (Cv call139 (c_must [40]) H (K2 Z0 Z0) (.tail D2) fun u44 ts45 H => Ny (Mv (ptr pb) (Cv call184 (c_name) H (K2 Z0 Z0) (.tail D2) fun s47 ts48 H => Av (Tx s47) (Ny (Mv (ptr pb) (Cv call139 (c_must [41]) H (K2 Z0 Z0) (.tail D2) fun u50 ts51 H => Nt (WC_region (Mv (Tx s47) (Mv (Iv t7.pos) (Mv (ptr pb) (Cn call133 (hg (.block) _ _ _ _) H (K2 Z0 Z0) (.tail D2) fun x53 ts54 q55 H => Bl 118 [ptr q55] (bs120_1 _ rfl ) fun b56 => WL_made (k := 62) (s := s47) (nu := 0) (a := t7.pos) rfl rfl (ent_kd1 (K2 Z0 Z0)) fun q57 => Av (ptr q57) (Ny (Mv (ptr pb) (Cn call188 (c_none) H (K2 Z1 Z1) (.tail D3) fun x58 ts59 q60 H => Av (ptr q60) (Nz (Mv (ptr pb) (Cv call134 (c_take [102, 105, 110, 97, 108, 108, 121]) H (K2 Z1 Z1) (.tail D4) fun b61 ts62 H => Nt ?_))))))))))))))))))
   cases hb64 : (b61)
   · try simp only [nr, hb64] at H
     refine Fz (Mv (ptr q57) (Nc q57 0 (Fa q57 0 fa122_0 (Fa q57 0 fa39_0 (WL.openN Z3 fun v65 => Lo q57 0 (Iv 62) isAgg3 Z0 rfl (Bo (Iv 62) (Iv 1) (.bool false) eqg_int (by rw [binOp_eql]; rfl) (Mv (.bool false) (Pa false 43 (Pa false 43 (Pa false 43 (Pa false 43 (Pa false 43 (Pa false 43 (Pk false (Nt (Fx (Mv (Iv a) (Mv (ptr q3) (Mv (ptr q57) (Mv (ptr q60) (Bl 118 [ptr q3, ptr q57, ptr q60] (bs120_3 _ _ _ rfl rfl rfl ) fun b66 => WL.ent (closeN (K2 Z1 Z1)) (WL_made (k := 61) (s := []) (nu := 0) (a := a) rfl rfl (ent_kd3 (K4 Z1 (.succ Z4) Z0 Z2)) fun q67 => Av (ptr q67) (Nr ?_)))))))))))))))))))))))
     try simp only [nr] at H
     exact At_ret1 results140 (fin_node H (K3 Z0 Z0 Z0) D1)
   try simp only [nr, hb64] at H
   refine Tr (Mv (ptr pb) (Cn call133 (hg (.block) _ _ _ _) H (K2 Z0 Z0) (.tail D4) fun x68 ts69 q70 H => Av (ptr q70) (Nz (Mv (ptr q57) (Nc q57 0 (Fa q57 0 fa122_0 (Fa q57 0 fa39_0 (WL.openN Z4 fun v71 => Lo q57 0 (Iv 62) isAgg3 Z0 rfl (Bo (Iv 62) (Iv 1) (.bool false) eqg_int (by rw [binOp_eql]; rfl) (Mv (.bool false) (Pa false 43 (Pa false 43 (Pa false 43 (Pa false 43 (Pa false 43 (Pa false 43 (Pk false (Nt (Fx (Mv (Iv a) (Mv (ptr q3) (Mv (ptr q57) (Mv (ptr q70) (Bl 118 [ptr q3, ptr q57, ptr q70] (bs120_3 _ _ _ rfl rfl rfl ) fun b72 => WL.ent (closeN (K2 Z1 Z1)) (WL_made (k := 61) (s := []) (nu := 0) (a := a) rfl rfl (ent_kd3 (K4 Z1 (.succ (.succ Z4)) Z0 Z0)) fun q73 => Av (ptr q73) (Nr ?_))))))))))))))))))))))))))
   try simp only [nr] at H
   exact At_ret1 results140 (fin_node H (K3 Z0 Z0 Z0) D2)
 try simp only [nr, hb13] at H
 refine Fx (Mv (ptr pb) (Cn call188 (c_none) H (K2 Z0 Z0) (.tail D2) fun x14 ts15 q16 H => Av (ptr q16) (Nz (Mv (ptr pb) (Cv call134 (c_take [102, 105, 110, 97, 108, 108, 121]) H (K2 Z1 Z1) (.tail D3) fun b17 ts18 H => Nt ?_)))))
 cases hb20 : (b17)
 · try simp only [nr, hb20] at H
   refine Fz (Mv (ptr q6) (Nc q6 0 (Fa q6 0 fa122_0 (Fa q6 0 fa39_0 ?_))))
   obtain ⟨k21, s21, n21, a21, l21⟩ := x4
   try simp only [nr] at H
   refine WL.openN Z3 fun v22 => Lo q6 0 (Iv k21) isAgg3 Z0 rfl (Bo (Iv k21) (Iv 1) (.bool (k21 == 1)) eqg_int (binOp_eql _ _ _ _) (Mv (.bool (k21 == 1)) ?_))
   cases hb23 : (k21 == 1)
   · try simp only [nr, hb23] at H
     refine Pa false 43 (Pa false 43 (Pa false 43 (Pa false 43 (Pa false 43 (Pa false 43 (Pk false (Nt (Fx (Mv (Iv a) (Mv (ptr q3) (Mv (ptr q6) (Mv (ptr q16) (Bl 118 [ptr q3, ptr q6, ptr q16] (bs120_3 _ _ _ rfl rfl rfl ) fun b24 => WL.ent (closeN (K2 Z1 Z1)) (WL_made (k := 61) (s := []) (nu := 0) (a := a) rfl rfl (ent_kd3 (K4 Z1 Z4 Z0 Z2)) fun q25 => Av (ptr q25) (Nr ?_)))))))))))))))
     try simp only [nr] at H
     exact At_ret1 results140 (fin_node H (K3 Z0 Z0 Z0) E0)
   try simp only [nr, hb23] at H
   refine Ta true 43 (Mv (ptr q16) (Ta true 43 (Nc q16 0 (Ta true 43 (Fa q16 0 fa122_0 (Ta true 43 (Fa q16 0 fa39_0 (Ta true 43 ?_))))))))
   obtain ⟨k26, s26, n26, a26, l26⟩ := x14
   try simp only [nr] at H
   refine WL.openN Z4 fun v27 => Lo q16 0 (Iv k26) isAgg3 Z0 rfl (Ta true 43 (Bo (Iv k26) (Iv 1) (.bool (k26 == 1)) eqg_int (binOp_eql _ _ _ _) (Pk true (Nt ?_))))
   cases hb28 : (k26 == 1)
   · try simp only [nr, hb28] at H
     refine Fx (Mv (Iv a) (Mv (ptr q3) (Mv (ptr q6) (Mv (ptr q16) (Bl 118 [ptr q3, ptr q6, ptr q16] (bs120_3 _ _ _ rfl rfl rfl ) fun b29 => WL.ent (closeN (K2 Z3 Z3)) (WL.ent (closeN (K2 Z2 Z2)) (WL_made (k := 61) (s := []) (nu := 0) (a := a) rfl rfl (ent_kd3 (K4 Z2 Z4 Z1 Z0)) fun q30 => Av (ptr q30) (Nr ?_))))))))
     try simp only [nr] at H
     exact At_ret1 results140 (fin_node H (K3 Z0 Z0 Z0) E0)
   try simp only [nr, hb28] at H
   refine Tr (Mv (ptr pb) ?_)
   exact WL_fail call89 rfl c_fail H (K2 Z4 Z4) (fun _ _ h => ⟨rfl, h⟩) rfl (.tail (.dropHead D4))
 try simp only [nr, hb20] at H
 refine Tr (Mv (ptr pb) (Cn call133 (hg (.block) _ _ _ _) H (K2 Z0 Z0) (.tail D3) fun x31 ts32 q33 H => Av (ptr q33) (Nz (Mv (ptr q6) (Nc q6 0 (Fa q6 0 fa122_0 (Fa q6 0 fa39_0 ?_)))))))
 obtain ⟨k34, s34, n34, a34, l34⟩ := x4
 try simp only [nr] at H
 refine WL.openN Z4 fun v35 => Lo q6 0 (Iv k34) isAgg3 Z0 rfl (Bo (Iv k34) (Iv 1) (.bool (k34 == 1)) eqg_int (binOp_eql _ _ _ _) (Mv (.bool (k34 == 1)) ?_))
 cases hb36 : (k34 == 1)
 · try simp only [nr, hb36] at H
   refine Pa false 43 (Pa false 43 (Pa false 43 (Pa false 43 (Pa false 43 (Pa false 43 (Pk false (Nt (Fx (Mv (Iv a) (Mv (ptr q3) (Mv (ptr q6) (Mv (ptr q33) (Bl 118 [ptr q3, ptr q6, ptr q33] (bs120_3 _ _ _ rfl rfl rfl ) fun b37 => WL.ent (closeN (K2 Z1 Z1)) (WL_made (k := 61) (s := []) (nu := 0) (a := a) rfl rfl (ent_kd3 (K4 Z1 (.succ Z4) Z0 Z0)) fun q38 => Av (ptr q38) (Nr ?_)))))))))))))))
   try simp only [nr] at H
   exact At_ret1 results140 (fin_node H (K3 Z0 Z0 Z0) D1)
 try simp only [nr, hb36] at H
 refine Ta true 43 (Mv (ptr q33) (Ta true 43 (Nc q33 0 (Ta true 43 (Fa q33 0 fa122_0 (Ta true 43 (Fa q33 0 fa39_0 (Ta true 43 ?_))))))))
 obtain ⟨k39, s39, n39, a39, l39⟩ := x31
 try simp only [nr] at H
 refine WL.openN Z2 fun v40 => Lo q33 0 (Iv k39) isAgg3 Z0 rfl (Ta true 43 (Bo (Iv k39) (Iv 1) (.bool (k39 == 1)) eqg_int (binOp_eql _ _ _ _) (Pk true (Nt ?_))))
 cases hb41 : (k39 == 1)
 · try simp only [nr, hb41] at H
   refine Fx (Mv (Iv a) (Mv (ptr q3) (Mv (ptr q6) (Mv (ptr q33) (Bl 118 [ptr q3, ptr q6, ptr q33] (bs120_3 _ _ _ rfl rfl rfl ) fun b42 => WL.ent (closeN (K2 Z3 Z3)) (WL.ent (closeN (K2 Z2 Z2)) (WL_made (k := 61) (s := []) (nu := 0) (a := a) rfl rfl (ent_kd3 (K4 Z2 (.succ Z4) Z1 Z0)) fun q43 => Av (ptr q43) (Nr ?_))))))))
   try simp only [nr] at H
   exact At_ret1 results140 (fin_node H (K3 Z0 Z0 Z0) D1)
 try simp only [nr, hb41] at H
 refine Tr (Mv (ptr pb) ?_)
 exact WL_fail call89 rfl c_fail H (K2 Z4 Z4) (fun _ _ h => ⟨rfl, h⟩) rfl (.tail (.dropHead (.dropHead D4)))
theorem n_arrowed (hK : K ≤ 274877906944) (hg : CG g) (a : Int) : ConM 142 [ptr pb, Iv a] pb tb L cap [] (arrowedM K g a) resN := by
 intro ts r H F
 show ∀ w, Sat (PO pb tb L cap ts :: TB tb L :: F) w → _
 replace H := bpureH H
 unfold arrowedM at H
 try simp only [nr] at H
 refine calls_of_WC (fn := f142) func142 rfl rfl (Sr (Av (.pointer none) (Ny (Mv (ptr pb) (WL_callNm call191 rfl c_empty H (K2 Z0 Z0) (fun _ _ h => ⟨rfl, h⟩) rfl (.tail E0) ?_)))))
 intro x1 ts2 q3 hmx1 H
 obtain ⟨a4, rfl⟩ := empty_is hmx1
 try simp only [nr] at H
 refine Mv (ptr pb) (WL_callNm call191 rfl c_empty H (K2 Z1 Z1) (fun _ _ h => ⟨rfl, h⟩) rfl (.tail D1) ?_)
 intro x5 ts6 q7 hmx5 H
 obtain ⟨a8, rfl⟩ := empty_is hmx5
 try simp only [nr] at H
 refine Av (ptr q3) (Av (ptr q7) (Nz (Mv (ptr pb) (Cv call85 (c_now) H (K2 Z1 Z1) (.tail D2) fun t9 ts10 H => WL_rd (rd_field (u := .agg #[Iv t9.kind, Tx t9.text, Iv t9.pos, Iv t9.en]) (v := Iv t9.kind) rfl (fv47_0 _ _ _ _ )) (Bo (Iv t9.kind) (Iv 1) (.bool (t9.kind == 1)) eqg_int (binOp_eql _ _ _ _) (Nt ?_))))))
 cases hb12 : (t9.kind == 1)
 · try simp only [nr, hb12] at H
   refine WC_false rfl (Sr (Mv (ptr pb) (Cn call185 (c_vars hK) H (K2 Z0 Z0) (.tail D2) fun x13 ts14 q15 H => Av (ptr q15) (Ny (Mv (ptr pb) (Cv call139 (c_must [40]) H (K2 Z1 Z1) (.tail D3) fun u16 ts17 H => Ny (Mv (ptr pb) (Cn call192 (hg (.params false) _ _ _ _) H (K2 Z0 Z0) (.tail D3) fun x19 ts20 q21 H => Av (ptr q21) (Nt (WC_region (Mv (ptr pb) (Cv call139 (c_must [41]) H (K2 Z1 Z1) (.tail D4) fun u22 ts23 H => Ny (Mv (ptr pb) (Cv call139 (c_must [61, 62]) H (K2 Z0 Z0) (.tail D4) fun u25 ts26 H => Nz (Mv (ptr pb) (Cv call132 (c_is [123]) H (K2 Z0 Z0) (.tail D4) fun b28 ts29 H => Nt ?_))))))))))))))))
   cases hb31 : (b28)
   · try simp only [nr, hb31] at H
     refine Fx (Mv (Iv a) (Mv (ptr q15) (Mv (ptr q21) (Mv (ptr pb) (Cn call87 (hg (.expr) _ _ _ _) H (K2 Z0 Z0) (.tail D4) fun x32 ts33 q34 H => Bl 118 [ptr q15, ptr q21, ptr q34] (bs120_3 _ _ _ rfl rfl rfl ) fun b35 => WL_made (k := 22) (s := []) (nu := 0) (a := a) rfl rfl (ent_kd3 (K4 Z0 Z4 Z3 Z0)) fun q36 => Av (ptr q36) (Nr ?_))))))
     try simp only [nr] at H
     exact At_ret1 results142 (fin_node H (K3 Z0 Z0 Z0) D2)
   try simp only [nr, hb31] at H
   refine Ts (Mv (Iv a) (Mv (ptr q15) (Mv (ptr q21) (Mv (ptr pb) (Cn call133 (hg (.block) _ _ _ _) H (K2 Z0 Z0) (.tail D4) fun x37 ts38 q39 H => Bl 118 [ptr q15, ptr q21, ptr q39] (bs120_3 _ _ _ rfl rfl rfl ) fun b40 => WL_made (k := 22) (s := []) (nu := 0) (a := a) rfl rfl (ent_kd3 (K4 Z0 Z4 Z3 Z0)) fun q41 => Av (ptr q41) (Nr (At_thenR ?_)))))))
   try simp only [nr] at H
   exact At_ret1 results142 (fin_node H (K3 Z0 Z0 Z0) D2)
 try simp only [nr, hb12] at H
 refine Ts (Mv (ptr pb) (Cv call184 (c_name) H (K2 Z0 Z0) (.tail D2) fun s42 ts43 H => Av (Tx s42) (Nt (WC_region (Mv (ptr q7) (Mv (Tx s42) (Mv (Iv a) (Mv (ptr pb) (Cn call188 (c_none) H (K2 Z0 Z0) (.tail D2) fun x45 ts46 q47 H => Bl 118 [ptr q47] (bs120_1 _ rfl ) fun b48 => WL_made (k := 66) (s := s42) (nu := 0) (a := a) rfl rfl (ent_kd1 (K2 Z0 Z0)) fun q49 => Bl 118 [ptr q49] (bs120_1 _ rfl ) fun b50 => Nc q7 0 (Fa q7 0 fa122_1 (WL.openN Z4 fun v51 => S1 q7 5 (Sl b50 1 1) sizeOf120 Z0 (.skip (.skip (.skip (.skip (.skip (.put .done)))))) (Ny (Mv (ptr pb) (Cv call139 (c_must [61, 62]) H (K2 Z4 Z4) (.tail (.dropHead D4)) fun u52 ts53 H => Nz (Mv (ptr pb) (Cv call132 (c_is [123]) H (K2 Z0 Z0) (.tail (.dropHead D4)) fun b55 ts56 H => Nt ?_))))))))))))))))
 cases hb58 : (b55)
 · try simp only [nr, hb58] at H
   refine Fx (Mv (Iv a) (Mv (ptr q3) (Mv (ptr q7) (Mv (ptr pb) (Cn call87 (hg (.expr) _ _ _ _) H (K2 Z0 Z0) (.tail (.dropHead D4)) fun x59 ts60 q61 H => Bl 118 [ptr q3, ptr q7, ptr q61] (bs120_3 _ _ _ rfl rfl rfl ) fun b62 => WL.ent (ent_kd1 (K2 (.succ (.succ Z4)) (.succ (.succ Z4)))) (WL.ent (closeN (K2 (.succ Z4) Z0)) (WL_made (k := 22) (s := []) (nu := 0) (a := a) rfl rfl (ent_kd3 (K4 Z1 (.succ Z4) Z0 Z0)) fun q63 => Av (ptr q63) (Nr ?_))))))))
   try simp only [nr] at H
   exact At_ret1 results142 (fin_node H (K3 Z0 Z0 Z0) D1)
 try simp only [nr, hb58] at H
 refine Ts (Mv (Iv a) (Mv (ptr q3) (Mv (ptr q7) (Mv (ptr pb) (Cn call133 (hg (.block) _ _ _ _) H (K2 Z0 Z0) (.tail (.dropHead D4)) fun x64 ts65 q66 H => Bl 118 [ptr q3, ptr q7, ptr q66] (bs120_3 _ _ _ rfl rfl rfl ) fun b67 => WL.ent (ent_kd1 (K2 (.succ (.succ Z4)) (.succ (.succ Z4)))) (WL.ent (closeN (K2 (.succ Z4) Z0)) (WL_made (k := 22) (s := []) (nu := 0) (a := a) rfl rfl (ent_kd3 (K4 Z1 (.succ Z4) Z0 Z0)) fun q68 => Av (ptr q68) (Nr (At_thenR ?_)))))))))
 try simp only [nr] at H
 exact At_ret1 results142 (fin_node H (K3 Z0 Z0 Z0) D1)
theorem n_enu (hK : K ≤ 274877906944) (hg : CG g) (n a : Int) : ConM 179 [ptr pb, Iv n, Iv a] pb tb L cap [] (enuM K g n a) resN := by
 intro ts r H F
 show ∀ w, Sat (PO pb tb L cap ts :: TB tb L :: F) w → _
 replace H := bpureH H
 unfold enuM at H
 try simp only [nr] at H
 refine calls_of_WC (fn := f179) func179 rfl rfl (Sr (Av (.pointer none) (Nt (WC_scope0 0 rfl (Sr (Mv (ptr pb) (Cv call139 (c_must [101, 110, 117, 109]) H (K2 Z0 Z0) (.tail E0) fun u1 ts2 H => Ny (Mv (ptr pb) (Cv call184 (c_name) H (K2 Z0 Z0) (.tail E0) fun s4 ts5 H => Mv (Iv n) (Mv (Iv a) (WL_made (k := 47) (s := s4) (nu := n) (a := a) rfl rfl (ent_kd0) fun q7 => Av (ptr q7) (Ny (Mv (ptr pb) (Cv call139 (c_must [123]) H (K2 Z1 Z1) (.tail D1) fun u8 ts9 H => Nt (WC_seq (WC_label (At_then (WC_seq (WC_block (WC_loopM (G := Nat × List PT) (fun x => x.2.length + 2 * x.1 ≤ 2 * K + 2) (fun x => membersM g x.1 x.2) (fun x => [(0, ptr pb), (6, .pointer none), (7, ptr q7)]) (fun x ts => PO pb tb L cap ts :: TB tb L :: TN (PT.node 47 s4 n a x.2) q7 :: F) (fun x => x.1) (K, []) H (show [].length + 2 * K ≤ 2 * K + 2 by (try simp) <;> omega) ⟨rfl, rfl, rfl, trivial⟩ (E3 Z0 Z0 Z0) ?_))))))))))))))))))))
 rintro ⟨k, acc11⟩ ts12 σ hpre H
 replace hpre : acc11.length + 2 * k ≤ 2 * K + 2 := hpre
 change (membersM g k acc11 >>= _) _ = _ at H
 rcases k with _ | k
 · exact oofK H
 rw [membersM] at H
 try simp only [nr] at H
 show WC prog _ _ _ (upds σ [(0, ptr pb), (6, .pointer none), (7, ptr q7)]) _ (PO pb tb L cap ts12 :: TB tb L :: TN (PT.node 47 s4 n a acc11) q7 :: F)
 refine Sz (Mv (ptr pb) (Cv call132 (c_is [125]) H (K2 Z0 Z0) (.tail D1) fun b13 ts14 H => WL_rd (rd_not (b := b13) rfl) (Nt ?_)))
 cases hb16 : (!b13)
 · try simp only [nr, hb16] at H
   refine WC_false rfl (WC_exit (At_thenX (At_loopX (At_blockX (At_then (Sr (Mv (ptr pb) (Cv call139 (c_must [125]) H (K2 Z0 Z0) (.tail D1) fun u17 ts18 H => Ny (Mv (ptr q7) (Av (ptr q7) (Nr (At_scopeR ?_))))))))))))
   try simp only [nr] at H
   exact At_ret1 results179 (fin_node H (K3 Z2 Z0 Z0) E0)
 try simp only [nr, hb16] at H
 refine WC_true rfl (WC_skip (At_then (WC_block (Sr (Mv (ptr pb) (Cv call85 (c_now) H (K2 Z0 Z0) (.tail D1) fun t20 ts21 H => WL_rd (rd_field (u := .agg #[Iv t20.kind, Tx t20.text, Iv t20.pos, Iv t20.en]) (v := Iv t20.pos) rfl (fv47_2 _ _ _ _ )) (Av (Iv t20.pos) (Ny (Mv (ptr pb) (Cv call184 (c_name) H (K2 Z0 Z0) (.tail D1) fun s23 ts24 H => Av (Tx s23) (Ny (Mv (ptr pb) (Cn call188 (c_none) H (K2 Z0 Z0) (.tail D1) fun x26 ts27 q28 H => Av (ptr q28) (Nz (Mv (ptr pb) (Cv call134 (c_take [61]) H (K2 Z1 Z1) (.tail D2) fun b29 ts30 H => Nt ?_))))))))))))))))
 cases hb32 : (b29)
 · try simp only [nr, hb32] at H
   refine Fs (WC_seq (WC.openN Z3 fun v33 => WC_draw [12, 13, 14] [Cl q7 122 [Iv 47, Tx s4, Iv n, .slice none 0 0, Iv a, slV v33]] mixed (Dt 0 rfl rfl (Q0 (K1 Z0)) (Rm (ptr q7) rfl) (Dt 1 rfl rfl (Q0 (K1 Z0)) (Rm (ptr q7) rfl) (Dt 2 rfl rfl (Q0 (K1 Z0)) (Rn q7 0 rfl) (Dt 3 rfl rfl (Q0 (K1 Z0)) (Rf q7 0 fa122_1 rfl) (Dt 4 rfl rfl (Q0 (K1 Z0)) (Rl q7 5 (slV v33) isAgg120 rfl Z0 rfl) (Dt 5 rfl rfl (Q0 (K1 Z0)) (Rm (Tx s23) rfl) (Dt 6 rfl rfl (Q0 (K1 Z0)) (Rm (Iv t20.pos) rfl) (Dt 7 rfl rfl (Q0 (K1 Z0)) (Rm (ptr q28) rfl) (WD_ef 8 (by kernel_rfl) rfl rfl rfl (ef_buildSlice (E := 118) (vs := [(0, ptr q28)]) (l := [ptr q28]) rfl (bs120_1 _ rfl )) (fun _ _ => Q0 (K1 Z1)) fun b34 => WD_made 9 (by kernel_rfl) rfl rfl rfl (run_call call84 (args_map (args := [Iv 48, Tx s23, Iv 0, Iv t20.pos, Sl b34 1 1]) rfl)) rfl (ent_kd1 (K2 Z0 Z4)) (Q0 (K1 Z0)) fun q35 => WD_ef 10 (by kernel_rfl) rfl rfl rfl (ef_buildSlice (E := 118) (vs := [(0, ptr q35)]) (l := [ptr q35]) rfl (bs120_1 _ rfl )) (fun _ _ => Q0 (K1 Z2)) fun b36 => WD_ef 11 (by kernel_rfl) rfl rfl rfl (ef_appendKid rfl rfl (K3 Z3 Z0 Z0) (by (try simp) <;> omega)) (fun _ _ => Q0 (K1 Z1)) fun v37 => WD_rd 12 (by kernel_rfl) rfl rfl rfl (Rn q7 0 rfl) (late_vac (i := 12) (by kernel_rfl) (by decide)) (WD_rd 13 (by kernel_rfl) rfl rfl rfl (Rf q7 0 fa122_1 rfl) (late_vac (i := 13) (by kernel_rfl) (by decide)) (WD_ef0 14 (by kernel_rfl) rfl rfl rfl (ef_store (b := q7) (o := 5) (v := slV v37) (vs := [slV v37]) sizeOf120 rfl rfl rfl rfl rfl Z1 (.skip (.skip (.skip (.skip (.skip (.put .done))))))) (late_vac (i := 14) (by kernel_rfl) (by decide)) ?_)))))))))))))
   refine WD_done (by kernel_rfl) ?_ _
   refine At_then (Sr (Mv (ptr pb) (Cv call134 (c_take [44]) H (K2 Z2 Z2) (.tail D2) fun b38 ts39 H => WL_rd (rd_not (b := b38) rfl) (Nt ?_))))
   cases hb41 : (!b38)
   · try simp only [nr, hb41] at H
     refine WC_false rfl (WC_skip (At_blockN (At.ent (closeN (K2 Z2 Z2)) ?_)))
     exact At_againM (k, (acc11 ++ [PT.node 48 s23 0 t20.pos [x26]])) _ H (show (acc11 ++ [PT.node 48 s23 0 t20.pos [x26]]).length + 2 * k ≤ 2 * K + 2 by (try simp) <;> omega) ⟨rfl, rfl, rfl, trivial⟩ (E3 Z1 Z1 Z0) (Nat.lt_succ_self _)
   try simp only [nr, hb41] at H
   refine WC_true rfl (WC_exit (At_blockY rfl (At_loopX (At_blockX (At_then (Sr (Mv (ptr pb) (Cv call139 (c_must [125]) H (K2 Z0 Z0) (.tail D2) fun u42 ts43 H => Ny (Mv (ptr q7) (Av (ptr q7) (Nr (At_scopeR ?_))))))))))))
   try simp only [nr] at H
   refine At.ent (closeN (K2 Z2 Z2)) ?_
   exact At_ret1 results179 (fin_node H (K3 Z0 Z0 Z0) E0)
 try simp only [nr, hb32] at H
 refine Tr (Mv (ptr pb) (Cn call87 (hg (.expr) _ _ _ _) H (K2 Z0 Z0) (.tail D2) fun x45 ts46 q47 H => Av (ptr q47) (Nt (WC_seq (WC.openN Z4 fun v48 => WC_draw [12, 13, 14] [Cl q7 122 [Iv 47, Tx s4, Iv n, .slice none 0 0, Iv a, slV v48]] mixed (Dt 0 rfl rfl (Q0 (K1 Z0)) (Rm (ptr q7) rfl) (Dt 1 rfl rfl (Q0 (K1 Z0)) (Rm (ptr q7) rfl) (Dt 2 rfl rfl (Q0 (K1 Z0)) (Rn q7 0 rfl) (Dt 3 rfl rfl (Q0 (K1 Z0)) (Rf q7 0 fa122_1 rfl) (Dt 4 rfl rfl (Q0 (K1 Z0)) (Rl q7 5 (slV v48) isAgg120 rfl Z0 rfl) (Dt 5 rfl rfl (Q0 (K1 Z0)) (Rm (Tx s23) rfl) (Dt 6 rfl rfl (Q0 (K1 Z0)) (Rm (Iv t20.pos) rfl) (Dt 7 rfl rfl (Q0 (K1 Z0)) (Rm (ptr q47) rfl) (WD_ef 8 (by kernel_rfl) rfl rfl rfl (ef_buildSlice (E := 118) (vs := [(0, ptr q47)]) (l := [ptr q47]) rfl (bs120_1 _ rfl )) (fun _ _ => Q0 (K1 Z1)) fun b49 => WD_made 9 (by kernel_rfl) rfl rfl rfl (run_call call84 (args_map (args := [Iv 48, Tx s23, Iv 0, Iv t20.pos, Sl b49 1 1]) rfl)) rfl (ent_kd1 (K2 Z0 Z2)) (Q0 (K1 Z0)) fun q50 => WD_ef 10 (by kernel_rfl) rfl rfl rfl (ef_buildSlice (E := 118) (vs := [(0, ptr q50)]) (l := [ptr q50]) rfl (bs120_1 _ rfl )) (fun _ _ => Q0 (K1 Z2)) fun b51 => WD_ef 11 (by kernel_rfl) rfl rfl rfl (ef_appendKid rfl rfl (K3 Z3 Z0 Z0) (by (try simp) <;> omega)) (fun _ _ => Q0 (K1 Z1)) fun v52 => WD_rd 12 (by kernel_rfl) rfl rfl rfl (Rn q7 0 rfl) (late_vac (i := 12) (by kernel_rfl) (by decide)) (WD_rd 13 (by kernel_rfl) rfl rfl rfl (Rf q7 0 fa122_1 rfl) (late_vac (i := 13) (by kernel_rfl) (by decide)) (WD_ef0 14 (by kernel_rfl) rfl rfl rfl (ef_store (b := q7) (o := 5) (v := slV v52) (vs := [slV v52]) sizeOf120 rfl rfl rfl rfl rfl Z1 (.skip (.skip (.skip (.skip (.skip (.put .done))))))) (late_vac (i := 14) (by kernel_rfl) (by decide)) ?_))))))))))))))))
 refine WD_done (by kernel_rfl) ?_ _
 refine At_then (Sr (Mv (ptr pb) (Cv call134 (c_take [44]) H (K2 Z2 Z2) (.tail D3) fun b53 ts54 H => WL_rd (rd_not (b := b53) rfl) (Nt ?_))))
 cases hb56 : (!b53)
 · try simp only [nr, hb56] at H
   refine WC_false rfl (WC_skip (At_blockN (At.ent (closeN (K2 Z2 Z2)) ?_)))
   exact At_againM (k, (acc11 ++ [PT.node 48 s23 0 t20.pos [x45]])) _ H (show (acc11 ++ [PT.node 48 s23 0 t20.pos [x45]]).length + 2 * k ≤ 2 * K + 2 by (try simp) <;> omega) ⟨rfl, rfl, rfl, trivial⟩ (En Z1 (En Z1 (En Z0 D1))) (Nat.lt_succ_self _)
 try simp only [nr, hb56] at H
 refine WC_true rfl (WC_exit (At_blockY rfl (At_loopX (At_blockX (At_then (Sr (Mv (ptr pb) (Cv call139 (c_must [125]) H (K2 Z0 Z0) (.tail D3) fun u57 ts58 H => Ny (Mv (ptr q7) (Av (ptr q7) (Nr (At_scopeR ?_))))))))))))
 try simp only [nr] at H
 refine At.ent (closeN (K2 Z2 Z2)) ?_
 exact At_ret1 results179 (fin_node H (K3 Z0 Z0 Z0) D1)
theorem n_variabl (hg : CG g) (n a : Int) : ConM 180 [ptr pb, Iv n, Iv a] pb tb L cap [] (variablM g n a) resN := by
 intro ts r H F
 show ∀ w, Sat (PO pb tb L cap ts :: TB tb L :: F) w → _
 replace H := bpureH H
 unfold variablM at H
 try simp only [nr] at H
 refine calls_of_WC (fn := f180) func180 rfl rfl (Sr (Av (.pointer none) (Ny (Mv (ptr pb) (Cv call184 (c_name) H (K2 Z0 Z0) (.tail E0) fun s1 ts2 H => Av (Tx s1) (Ny (Mv (ptr pb) (Cn call214 (hg (.optional) _ _ _ _) H (K2 Z0 Z0) (.tail E0) fun x4 ts5 q6 H => Av (ptr q6) (Ny (Mv (ptr pb) (Cv call139 (c_must [61]) H (K2 Z1 Z1) (.tail D1) fun u7 ts8 H => Ny (Mv (Tx s1) (Mv (Iv n) (Mv (Iv a) (Mv (ptr q6) (Mv (ptr pb) (Cn call87 (hg (.expr) _ _ _ _) H (K2 Z0 Z0) (.tail D1) fun x10 ts11 q12 H => Bl 118 [ptr q6, ptr q12] (bs120_2 _ _ rfl rfl ) fun b13 => WL_made (k := 40) (s := s1) (nu := n) (a := a) rfl rfl (ent_kd2 (K3 Z0 Z3 Z0)) fun q14 => Av (ptr q14) (Nr ?_))))))))))))))))))
 try simp only [nr] at H
 exact At_ret1 results180 (fin_node H (K3 Z0 Z0 Z0) E0)
theorem n_functio (hK : K ≤ 274877906944) (hg : CG g) (k a : Int) : ConM 181 [ptr pb, Iv k, Iv a] pb tb L cap [] (functioM K g k a) resN := by
 intro ts r H F
 show ∀ w, Sat (PO pb tb L cap ts :: TB tb L :: F) w → _
 replace H := bpureH H
 unfold functioM at H
 try simp only [nr] at H
 refine calls_of_WC (fn := f181) func181 rfl rfl (Sr (Av (.pointer none) (Ny (Mv (ptr pb) (Cv call184 (c_name) H (K2 Z0 Z0) (.tail E0) fun s1 ts2 H => Av (Tx s1) (Ny (Mv (ptr pb) (Cn call185 (c_vars hK) H (K2 Z0 Z0) (.tail E0) fun x4 ts5 q6 H => Av (ptr q6) (Ny (Mv (ptr pb) (Cv call139 (c_must [40]) H (K2 Z1 Z1) (.tail D1) fun u7 ts8 H => Ny (Mv (ptr pb) (Cn call192 (hg (.params false) _ _ _ _) H (K2 Z0 Z0) (.tail D1) fun x10 ts11 q12 H => Av (ptr q12) (Ny (Mv (ptr pb) (Cv call139 (c_must [41]) H (K2 Z1 Z1) (.tail D2) fun u13 ts14 H => Ny (Mv (ptr pb) (Cn call214 (hg (.optional) _ _ _ _) H (K2 Z0 Z0) (.tail D2) fun x16 ts17 q18 H => Av (ptr q18) (Ny (Mv (Iv k) (Mv (Tx s1) (Mv (Iv a) (Mv (ptr q6) (Mv (ptr q12) (Mv (ptr q18) (Mv (ptr pb) (Cn call133 (hg (.block) _ _ _ _) H (K2 Z1 Z1) (.tail D3) fun x19 ts20 q21 H => Bl 118 [ptr q6, ptr q12, ptr q18, ptr q21] (bs120_4 _ _ _ _ rfl rfl rfl rfl ) fun b22 => WL_made (k := k) (s := s1) (nu := 0) (a := a) rfl rfl (ent_kd4 (.cons Z0 (K4 (.succ Z4) Z4 Z3 Z0))) fun q23 => Av (ptr q23) (Nr ?_))))))))))))))))))))))))))))
 try simp only [nr] at H
 exact At_ret1 results181 (fin_node H (K3 Z0 Z0 Z0) E0)
theorem n_clas (hK : K ≤ 274877906944) (hg : CG g) (a : Int) : ConM 182 [ptr pb, Iv a] pb tb L cap [] (clasM K g a) resN := by
 intro ts r H F
 show ∀ w, Sat (PO pb tb L cap ts :: TB tb L :: F) w → _
 replace H := bpureH H
 unfold clasM at H
 try simp only [nr] at H
 refine calls_of_WC (fn := f182) func182 rfl rfl (Sr (Av (.pointer none) (Ny (Mv (ptr pb) (Cv call184 (c_name) H (K2 Z0 Z0) (.tail E0) fun s1 ts2 H => Av (Tx s1) (Ny (Mv (ptr pb) (Cn call185 (c_vars hK) H (K2 Z0 Z0) (.tail E0) fun x4 ts5 q6 H => Av (ptr q6) (Ny (Mv (ptr pb) (Cn call188 (c_none) H (K2 Z1 Z1) (.tail D1) fun x7 ts8 q9 H => Av (ptr q9) (Nz (Mv (ptr pb) (Cv call85 (c_now) H (K2 Z1 Z1) (.tail D2) fun t10 ts11 H => WL_rd (rd_field (u := .agg #[Iv t10.kind, Tx t10.text, Iv t10.pos, Iv t10.en]) (v := Iv t10.pos) rfl (fv47_2 _ _ _ _ )) (Av (Iv t10.pos) (Ny (Mv (ptr pb) (Cv call134 (c_take [101, 120, 116, 101, 110, 100, 115]) H (K2 Z0 Z0) (.tail D2) fun b13 ts14 H => Nt ?_))))))))))))))))))
 cases hb16 : (b13)
 · try simp only [nr, hb16] at H
   refine Fx (Mv (ptr pb) (Cn call186 (hg (.refs [105, 109, 112, 108, 101, 109, 101, 110, 116, 115]) _ _ _ _) H (K2 Z0 Z0) (.tail D2) fun x17 ts18 q19 H => Av (ptr q19) (Ny (Mv (ptr pb) (Cv call139 (c_must [123]) H (K2 Z1 Z1) (.tail D3) fun u20 ts21 H => Ny (Mv (ptr pb) (WL_callNm call191 rfl c_empty H (K2 Z0 Z0) (fun _ _ h => ⟨rfl, h⟩) rfl (.tail D3) ?_)))))))
   intro x23 ts24 q25 hmx23 H
   obtain ⟨a26, rfl⟩ := empty_is hmx23
   try simp only [nr] at H
   refine Av (ptr q25) (Ny (Av (Iv 0) (Nt (WC_seq (WC_block (WC_loopM (G := Nat × List PT × Int) (fun x => (x.2.1 : List PT).length + 2 * x.1 ≤ 2 * K + 2 ∧ (0 : Int) ≤ x.2.2 ∧ (x.2.2 : Int) ≤ ((x.2.1 : List PT).length : Nat)) (fun x => classM g x.1 x.2.2 x.2.1) (fun x => [(0, ptr pb), (1, Iv a), (4, .pointer none), (5, Tx s1), (6, ptr q6), (7, ptr q9), (10, ptr q19), (11, ptr q25), (12, Iv x.2.2)]) (fun x ts => TN (PT.node 2 [] 0 a26 x.2.1) q25 :: PO pb tb L cap ts :: TB tb L :: TN x17 q19 :: TN x7 q9 :: TN x4 q6 :: F) (fun x => x.1) (K, [], 0) H (show ([] : List PT).length + 2 * K ≤ 2 * K + 2 ∧ (0 : Int) ≤ 0 ∧ (0 : Int) ≤ (([] : List PT).length : Nat) by (try simp) <;> omega) ⟨rfl, rfl, rfl, rfl, rfl, rfl, rfl, rfl, rfl, trivial⟩ (En Z0 (En Z0 (E4 Z0 Z0 Z0 Z0))) ?_))))))
   rintro ⟨k, acc27, c28⟩ ts29 σ hpre H
   replace hpre : (acc27 : List PT).length + 2 * k ≤ 2 * K + 2 ∧ (0 : Int) ≤ c28 ∧ (c28 : Int) ≤ ((acc27 : List PT).length : Nat) := hpre
   change (classM g k c28 acc27 >>= _) _ = _ at H
   rcases k with _ | k
   · exact oofK H
   rw [classM] at H
   try simp only [nr] at H
   show WC prog _ _ _ (upds σ [(0, ptr pb), (1, Iv a), (4, .pointer none), (5, Tx s1), (6, ptr q6), (7, ptr q9), (10, ptr q19), (11, ptr q25), (12, Iv c28)]) _ (TN (PT.node 2 [] 0 a26 acc27) q25 :: PO pb tb L cap ts29 :: TB tb L :: TN x17 q19 :: TN x7 q9 :: TN x4 q6 :: F)
   refine Sz (Mv (ptr pb) (Cv call132 (c_is [125]) H (K2 Z1 Z1) (.tail D4) fun b30 ts31 H => WL_rd (rd_not (b := b30) rfl) (Nt ?_)))
   cases hb33 : (!b30)
   · try simp only [nr, hb33] at H
     refine WC_false rfl (WC_exit (At_thenX (At_loopX (At_blockX (At_then (Sz (Mv (Iv c28) (Bo (Iv c28) (Iv 1) (.bool (decide (c28 > 1))) eqg_int (binOp_gtr _ _ _ _) (Nt ?_)))))))))
     cases hb34 : (decide (c28 > 1))
     · try simp only [nr, hb34] at H
       refine Fx (Mv (ptr pb) (Cv call139 (c_must [125]) H (K2 Z0 Z0) (.tail D4) fun u35 ts36 H => Ny (Mv (Tx s1) (Mv (Iv a) (Mv (ptr q6) (Mv (ptr q9) (Mv (ptr q19) (Mv (ptr q25) (Bl 118 [ptr q6, ptr q9, ptr q19, ptr q25] (bs120_4 _ _ _ _ rfl rfl rfl rfl ) fun b38 => WL_made (k := 42) (s := s1) (nu := 0) (a := a) rfl rfl (ent_kd4 (.cons Z0 (K4 (.succ Z4) Z4 Z3 Z2))) fun q39 => Av (ptr q39) (Nr ?_))))))))))
       try simp only [nr] at H
       exact At_ret1 results182 (fin_node H (K3 Z0 Z0 Z0) E0)
     try simp only [nr, hb34] at H
     refine Tr (Mv (ptr pb) ?_)
     exact WL_fail call89 rfl c_fail H (K2 Z0 Z0) (fun _ _ h => ⟨rfl, h⟩) rfl (.tail D4)
   try simp only [nr, hb33] at H
   refine WC_true rfl (WC_skip (At_then (WC_block (Sr (Mv (ptr pb) (Cn call216 (hg (.part) _ _ _ _) H (K2 Z0 Z0) (.tail D4) fun x40 ts41 q42 H => Av (ptr q42) (Nz (Mv (ptr q42) (Nc q42 0 (Fa q42 0 fa122_0 (Fa q42 0 fa39_0 ?_)))))))))))
   obtain ⟨k43, s43, n43, a43, l43⟩ := x40
   try simp only [nr] at H
   refine WL.openN Z0 fun v44 => Lo q42 0 (Iv k43) isAgg3 Z0 rfl (Bo (Iv k43) (Iv 46) (.bool (k43 == 46)) eqg_int (binOp_eql _ _ _ _) (Nt ?_))
   cases hb45 : (k43 == 46)
   · try simp only [nr, hb45] at H
     refine Fs (WC_region (Mv (ptr q25) (Mv (ptr q25) (Nc q25 0 (Fa q25 0 fa122_1 (WL.openN Z4 fun v46 => Lo q25 5 (slV v46) isAgg120 Z0 rfl (Mv (ptr q42) (Bl 118 [ptr q42] (bs120_1 _ rfl ) fun b47 => WL.ent (closeN (K2 Z3 Z3)) (WL_ef (ef_appendKid rfl rfl (K3 Z3 Z1 Z0) (by (try simp) <;> omega)) fun v48 => Nc q25 0 (Fa q25 0 fa122_1 (S1 q25 5 (slV v48) sizeOf120 Z1 (.skip (.skip (.skip (.skip (.skip (.put .done)))))) (WL_nil (At_blockN (At.ent (closeN (K2 Z0 Z0)) ?_))))))))))))))
     exact At_againM (k, (acc27 ++ [PT.node k43 s43 n43 a43 l43]), c28) _ H (show ((acc27 ++ [PT.node k43 s43 n43 a43 l43]) : List PT).length + 2 * k ≤ 2 * K + 2 ∧ (0 : Int) ≤ c28 ∧ (c28 : Int) ≤ (((acc27 ++ [PT.node k43 s43 n43 a43 l43]) : List PT).length : Nat) by (try simp) <;> omega) ⟨rfl, rfl, rfl, rfl, rfl, rfl, rfl, rfl, rfl, trivial⟩ (En Z0 (En Z0 (E4 Z0 Z0 Z0 Z0))) (Nat.lt_succ_self _)
   try simp only [nr, hb45] at H
   refine Tr (Mv (Iv c28) (Bo (Iv c28) (Iv 1) (Iv (c28 + 1)) eqg_int (bin_add (by omega) (by omega)) (Av (Iv (c28 + 1)) (Nt (WC_region (Mv (ptr q25) (Mv (ptr q25) (Nc q25 0 (Fa q25 0 fa122_1 (WL.openN Z4 fun v49 => Lo q25 5 (slV v49) isAgg120 Z0 rfl (Mv (ptr q42) (Bl 118 [ptr q42] (bs120_1 _ rfl ) fun b50 => WL.ent (closeN (K2 Z3 Z3)) (WL_ef (ef_appendKid rfl rfl (K3 Z3 Z1 Z0) (by (try simp) <;> omega)) fun v51 => Nc q25 0 (Fa q25 0 fa122_1 (S1 q25 5 (slV v51) sizeOf120 Z1 (.skip (.skip (.skip (.skip (.skip (.put .done)))))) (WL_nil (At_blockN (At.ent (closeN (K2 Z0 Z0)) ?_))))))))))))))))))
   exact At_againM (k, (acc27 ++ [PT.node k43 s43 n43 a43 l43]), (c28 + 1)) _ H (show ((acc27 ++ [PT.node k43 s43 n43 a43 l43]) : List PT).length + 2 * k ≤ 2 * K + 2 ∧ (0 : Int) ≤ (c28 + 1) ∧ ((c28 + 1) : Int) ≤ (((acc27 ++ [PT.node k43 s43 n43 a43 l43]) : List PT).length : Nat) by (try simp) <;> omega) ⟨rfl, rfl, rfl, rfl, rfl, rfl, rfl, rfl, rfl, trivial⟩ (En Z0 (En Z0 (E4 Z0 Z0 Z0 Z0))) (Nat.lt_succ_self _)
 try simp only [nr, hb16] at H
 refine Ts (Mv (ptr pb) (Cv call184 (c_name) H (K2 Z0 Z0) (.tail D2) fun s52 ts53 H => Av (Tx s52) (Nt (WC_region (Mv (Tx s52) (Mv (Iv t10.pos) (Mv (ptr pb) (Cn call215 (hg (.args) _ _ _ _) H (K2 Z0 Z0) (.tail D2) fun x55 ts56 q57 H => Bl 118 [ptr q57] (bs120_1 _ rfl ) fun b58 => WL_made (k := 43) (s := s52) (nu := 0) (a := t10.pos) rfl rfl (ent_kd1 (K2 Z0 Z0)) fun q59 => Av (ptr q59) (Ny (Mv (ptr pb) (Cn call186 (hg (.refs [105, 109, 112, 108, 101, 109, 101, 110, 116, 115]) _ _ _ _) H (K2 Z1 Z1) (.tail D3) fun x60 ts61 q62 H => Av (ptr q62) (Ny (Mv (ptr pb) (Cv call139 (c_must [123]) H (K2 Z1 Z1) (.tail D4) fun u63 ts64 H => Ny (Mv (ptr pb) (WL_callNm call191 rfl c_empty H (K2 Z0 Z0) (fun _ _ h => ⟨rfl, h⟩) rfl (.tail D4) ?_))))))))))))))))
 intro x66 ts67 q68 hmx66 H
 obtain ⟨a69, rfl⟩ := empty_is hmx66
 try simp only [nr] at H
 refine Av (ptr q68) (Ny (Av (Iv 0) (Nt (WC_seq (WC_block (WC_loopM (G := Nat × List PT × Int) (fun x => (x.2.1 : List PT).length + 2 * x.1 ≤ 2 * K + 2 ∧ (0 : Int) ≤ x.2.2 ∧ (x.2.2 : Int) ≤ ((x.2.1 : List PT).length : Nat)) (fun x => classM g x.1 x.2.2 x.2.1) (fun x => [(0, ptr pb), (1, Iv a), (4, .pointer none), (5, Tx s1), (6, ptr q6), (7, ptr q59), (10, ptr q62), (11, ptr q68), (12, Iv x.2.2)]) (fun x ts => TN (PT.node 2 [] 0 a69 x.2.1) q68 :: PO pb tb L cap ts :: TB tb L :: TN x60 q62 :: TN (PT.node 43 s52 0 t10.pos [x55]) q59 :: TN x7 q9 :: TN x4 q6 :: F) (fun x => x.1) (K, [], 0) H (show ([] : List PT).length + 2 * K ≤ 2 * K + 2 ∧ (0 : Int) ≤ 0 ∧ (0 : Int) ≤ (([] : List PT).length : Nat) by (try simp) <;> omega) ⟨rfl, rfl, rfl, rfl, rfl, rfl, rfl, rfl, rfl, trivial⟩ (En Z0 (En Z0 (En Z0 (E4 Z0 Z0 Z0 Z0)))) ?_))))))
 rintro ⟨k, acc70, c71⟩ ts72 σ hpre H
 replace hpre : (acc70 : List PT).length + 2 * k ≤ 2 * K + 2 ∧ (0 : Int) ≤ c71 ∧ (c71 : Int) ≤ ((acc70 : List PT).length : Nat) := hpre
 change (classM g k c71 acc70 >>= _) _ = _ at H
 rcases k with _ | k
 · exact oofK H
 rw [classM] at H
 try simp only [nr] at H
 show WC prog _ _ _ (upds σ [(0, ptr pb), (1, Iv a), (4, .pointer none), (5, Tx s1), (6, ptr q6), (7, ptr q59), (10, ptr q62), (11, ptr q68), (12, Iv c71)]) _ (TN (PT.node 2 [] 0 a69 acc70) q68 :: PO pb tb L cap ts72 :: TB tb L :: TN x60 q62 :: TN (PT.node 43 s52 0 t10.pos [x55]) q59 :: TN x7 q9 :: TN x4 q6 :: F)
 refine Sz (Mv (ptr pb) (Cv call132 (c_is [125]) H (K2 Z1 Z1) (.tail (.dropHead D4)) fun b73 ts74 H => WL_rd (rd_not (b := b73) rfl) (Nt ?_)))
 cases hb76 : (!b73)
 · try simp only [nr, hb76] at H
   refine WC_false rfl (WC_exit (At_thenX (At_loopX (At_blockX (At_then (Sz (Mv (Iv c71) (Bo (Iv c71) (Iv 1) (.bool (decide (c71 > 1))) eqg_int (binOp_gtr _ _ _ _) (Nt ?_)))))))))
   cases hb77 : (decide (c71 > 1))
   · try simp only [nr, hb77] at H
     refine Fx (Mv (ptr pb) (Cv call139 (c_must [125]) H (K2 Z0 Z0) (.tail (.dropHead D4)) fun u78 ts79 H => Ny (Mv (Tx s1) (Mv (Iv a) (Mv (ptr q6) (Mv (ptr q59) (Mv (ptr q62) (Mv (ptr q68) (Bl 118 [ptr q6, ptr q59, ptr q62, ptr q68] (bs120_4 _ _ _ _ rfl rfl rfl rfl ) fun b81 => WL_made (k := 42) (s := s1) (nu := 0) (a := a) rfl rfl (ent_kd4 (.cons Z0 (K4 (.succ (.succ Z4)) Z4 Z3 Z2))) fun q82 => Av (ptr q82) (Nr ?_))))))))))
     try simp only [nr] at H
     exact At_ret1 results182 (fin_node H (K3 Z0 Z0 Z0) D1)
   try simp only [nr, hb77] at H
   refine Tr (Mv (ptr pb) ?_)
   exact WL_fail call89 rfl c_fail H (K2 Z0 Z0) (fun _ _ h => ⟨rfl, h⟩) rfl (.tail (.dropHead D4))
 try simp only [nr, hb76] at H
 refine WC_true rfl (WC_skip (At_then (WC_block (Sr (Mv (ptr pb) (Cn call216 (hg (.part) _ _ _ _) H (K2 Z0 Z0) (.tail (.dropHead D4)) fun x83 ts84 q85 H => Av (ptr q85) (Nz (Mv (ptr q85) (Nc q85 0 (Fa q85 0 fa122_0 (Fa q85 0 fa39_0 ?_)))))))))))
 obtain ⟨k86, s86, n86, a86, l86⟩ := x83
 try simp only [nr] at H
 refine WL.openN Z0 fun v87 => Lo q85 0 (Iv k86) isAgg3 Z0 rfl (Bo (Iv k86) (Iv 46) (.bool (k86 == 46)) eqg_int (binOp_eql _ _ _ _) (Nt ?_))
 cases hb88 : (k86 == 46)
 · try simp only [nr, hb88] at H
   refine Fs (WC_region (Mv (ptr q68) (Mv (ptr q68) (Nc q68 0 (Fa q68 0 fa122_1 (WL.openN Z4 fun v89 => Lo q68 5 (slV v89) isAgg120 Z0 rfl (Mv (ptr q85) (Bl 118 [ptr q85] (bs120_1 _ rfl ) fun b90 => WL.ent (closeN (K2 Z3 Z3)) (WL_ef (ef_appendKid rfl rfl (K3 Z3 Z1 Z0) (by (try simp) <;> omega)) fun v91 => Nc q68 0 (Fa q68 0 fa122_1 (S1 q68 5 (slV v91) sizeOf120 Z1 (.skip (.skip (.skip (.skip (.skip (.put .done)))))) (WL_nil (At_blockN (At.ent (closeN (K2 Z0 Z0)) ?_))))))))))))))
   exact At_againM (k, (acc70 ++ [PT.node k86 s86 n86 a86 l86]), c71) _ H (show ((acc70 ++ [PT.node k86 s86 n86 a86 l86]) : List PT).length + 2 * k ≤ 2 * K + 2 ∧ (0 : Int) ≤ c71 ∧ (c71 : Int) ≤ (((acc70 ++ [PT.node k86 s86 n86 a86 l86]) : List PT).length : Nat) by (try simp) <;> omega) ⟨rfl, rfl, rfl, rfl, rfl, rfl, rfl, rfl, rfl, trivial⟩ (En Z0 (En Z0 (En Z0 (E4 Z0 Z0 Z0 Z0)))) (Nat.lt_succ_self _)
 try simp only [nr, hb88] at H
 refine Tr (Mv (Iv c71) (Bo (Iv c71) (Iv 1) (Iv (c71 + 1)) eqg_int (bin_add (by omega) (by omega)) (Av (Iv (c71 + 1)) (Nt (WC_region (Mv (ptr q68) (Mv (ptr q68) (Nc q68 0 (Fa q68 0 fa122_1 (WL.openN Z4 fun v92 => Lo q68 5 (slV v92) isAgg120 Z0 rfl (Mv (ptr q85) (Bl 118 [ptr q85] (bs120_1 _ rfl ) fun b93 => WL.ent (closeN (K2 Z3 Z3)) (WL_ef (ef_appendKid rfl rfl (K3 Z3 Z1 Z0) (by (try simp) <;> omega)) fun v94 => Nc q68 0 (Fa q68 0 fa122_1 (S1 q68 5 (slV v94) sizeOf120 Z1 (.skip (.skip (.skip (.skip (.skip (.put .done)))))) (WL_nil (At_blockN (At.ent (closeN (K2 Z0 Z0)) ?_))))))))))))))))))
 exact At_againM (k, (acc70 ++ [PT.node k86 s86 n86 a86 l86]), (c71 + 1)) _ H (show ((acc70 ++ [PT.node k86 s86 n86 a86 l86]) : List PT).length + 2 * k ≤ 2 * K + 2 ∧ (0 : Int) ≤ (c71 + 1) ∧ ((c71 + 1) : Int) ≤ (((acc70 ++ [PT.node k86 s86 n86 a86 l86]) : List PT).length : Nat) by (try simp) <;> omega) ⟨rfl, rfl, rfl, rfl, rfl, rfl, rfl, rfl, rfl, trivial⟩ (En Z0 (En Z0 (En Z0 (E4 Z0 Z0 Z0 Z0)))) (Nat.lt_succ_self _)
theorem n_namespac (hK : K ≤ 274877906944) (hg : CG g) (a : Int) : ConM 183 [ptr pb, Iv a] pb tb L cap [] (namespacM K g a) resN := by
 intro ts r H F
 show ∀ w, Sat (PO pb tb L cap ts :: TB tb L :: F) w → _
 replace H := bpureH H
 unfold namespacM at H
 try simp only [nr] at H
 refine calls_of_WC (fn := f183) func183 rfl rfl (Sr (Av (.pointer none) (Ny (Mv (ptr pb) (Cv call184 (c_name) H (K2 Z0 Z0) (.tail E0) fun s1 ts2 H => Mv (Iv a) (WL_made (k := 49) (s := s1) (nu := 0) (a := a) rfl rfl (ent_kd0) fun q4 => Av (ptr q4) (Ny (Mv (ptr pb) (Cv call139 (c_must [123]) H (K2 Z1 Z1) (.tail D1) fun u5 ts6 H => Nt (WC_seq (WC_block (WC_loopM (G := Nat × List PT) (fun x => x.2.length + 2 * x.1 ≤ 2 * K + 2) (fun x => nsM K g x.1 x.2) (fun x => [(0, ptr pb), (4, .pointer none), (5, ptr q4)]) (fun x ts => PO pb tb L cap ts :: TB tb L :: TN (PT.node 49 s1 0 a x.2) q4 :: F) (fun x => x.1) (K, []) H (show [].length + 2 * K ≤ 2 * K + 2 by (try simp) <;> omega) ⟨rfl, rfl, rfl, trivial⟩ (E3 Z0 Z0 Z0) ?_))))))))))))
 rintro ⟨k, acc8⟩ ts9 σ hpre H
 replace hpre : acc8.length + 2 * k ≤ 2 * K + 2 := hpre
 change (nsM K g k acc8 >>= _) _ = _ at H
 rcases k with _ | k
 · exact oofK H
 rw [nsM] at H
 try simp only [nr] at H
 show WC prog _ _ _ (upds σ [(0, ptr pb), (4, .pointer none), (5, ptr q4)]) _ (PO pb tb L cap ts9 :: TB tb L :: TN (PT.node 49 s1 0 a acc8) q4 :: F)
 refine Sz (Mv (ptr pb) (Cv call132 (c_is [125]) H (K2 Z0 Z0) (.tail D1) fun b10 ts11 H => WL_rd (rd_not (b := b10) rfl) (Nt ?_)))
 cases hb13 : (!b10)
 · try simp only [nr, hb13] at H
   refine WC_false rfl (WC_exit (At_thenX (At_loopX (At_blockX (At_then (Sr (Mv (ptr pb) (Cv call139 (c_must [125]) H (K2 Z0 Z0) (.tail D1) fun u14 ts15 H => Ny (Mv (ptr q4) (Av (ptr q4) (Nr ?_)))))))))))
   try simp only [nr] at H
   exact At_ret1 results183 (fin_node H (K3 Z2 Z0 Z0) E0)
 try simp only [nr, hb13] at H
 refine WC_true rfl (WC_skip (At_then (WC_block (Sr (Mv (ptr pb) (Cv call85 (c_now) H (K2 Z0 Z0) (.tail D1) fun t17 ts18 H => WL_ef (ef_alloc (l := [Iv 0, Tx [], Iv 0, Iv 0]) zeroValue47 rfl) fun b20 => Sa b20 0 [Iv t17.kind, Tx t17.text, Iv t17.pos, Iv t17.en] sizeOf47 Z0 (.put (.put (.put (.put .done)))) (Nz (Mv (ptr pb) (Cv call134 (c_take [101, 120, 112, 111, 114, 116]) H (K2 Z1 Z1) (.tail D2) fun b21 ts22 H => WL_rd (rd_not (b := b21) rfl) (Nt ?_))))))))))
 cases hb24 : (!b21)
 rotate_left 1
 · try simp only [nr, hb24] at H
   refine WC_true rfl (WC_seq (WC.openN Z3 fun v53 => WC_draw [9, 10, 11] [Cl q4 122 [Iv 49, Tx s1, Iv 0, .slice none 0 0, Iv a, slV v53]] mixed (Dt 0 rfl rfl (Q0 (K1 Z0)) (Rm (ptr q4) rfl) (Dt 1 rfl rfl (Q0 (K1 Z0)) (Rm (ptr q4) rfl) (Dt 2 rfl rfl (Q0 (K1 Z0)) (Rn q4 0 rfl) (Dt 3 rfl rfl (Q0 (K1 Z0)) (Rf q4 0 fa122_1 rfl) (Dt 4 rfl rfl (Q0 (K1 Z0)) (Rl q4 5 (slV v53) isAgg120 rfl Z0 rfl) (Dt 5 rfl rfl (Q0 (K1 Z0)) (Rm (ptr pb) rfl) (WD_callN 6 (by kernel_rfl) rfl rfl rfl (run_call call86 (args_map rfl)) (hg (.statement) _ _ _ _) H (K2 Z2 Z2) (fun _ _ h => ⟨rfl, h⟩) rfl (.tail D3) (Q0 (K1 Z0)) fun x54 ts55 q56 H => WD_ef 7 (by kernel_rfl) rfl rfl rfl (ef_buildSlice (E := 118) (vs := [(0, ptr q56)]) (l := [ptr q56]) rfl (bs120_1 _ rfl )) (fun _ _ => Q0 (K1 Z4)) fun b57 => WD_ef 8 (by kernel_rfl) rfl rfl rfl (ef_appendKid rfl rfl (K3 (.succ Z4) Z0 Z0) (by (try simp) <;> omega)) (fun _ _ => Q0 (K1 Z3)) fun v58 => WD_rd 9 (by kernel_rfl) rfl rfl rfl (Rn q4 0 rfl) (late_vac (i := 9) (by kernel_rfl) (by decide)) (WD_rd 10 (by kernel_rfl) rfl rfl rfl (Rf q4 0 fa122_1 rfl) (late_vac (i := 10) (by kernel_rfl) (by decide)) (WD_ef0 11 (by kernel_rfl) rfl rfl rfl (ef_store (b := q4) (o := 5) (v := slV v58) (vs := [slV v58]) sizeOf120 rfl rfl rfl rfl rfl Z3 (.skip (.skip (.skip (.skip (.skip (.put .done))))))) (late_vac (i := 11) (by kernel_rfl) (by decide)) ?_)))))))))))
   refine WD_done (by kernel_rfl) ?_ _
   refine At_then (WC_exit (At_thenX (At_blockX (At.ent (closeN (K2 Z0 Z0)) ?_))))
   exact At_againM (k, (acc8 ++ [x54])) _ H (show (acc8 ++ [x54]).length + 2 * k ≤ 2 * K + 2 by (try simp) <;> omega) ⟨rfl, rfl, rfl, trivial⟩ (En Z1 (En Z1 (En Z0 D1))) (Nat.lt_succ_self _)
 try simp only [nr, hb24] at H
 refine Fz (Mv (ptr pb) (Cv call132 (c_is [108, 101, 116]) H (K2 Z0 Z0) (.tail D2) fun b25 ts26 H => Mv (.bool b25) ?_))
 cases hb28 : (b25)
 rotate_left 1
 · try simp only [nr, hb28] at H
   refine Pa true 35 (Pa true 35 (Pa true 35 (Pa true 35 (Pk true (Nt (Tr (Mv (ptr pb) ?_)))))))
   exact WL_fail call89 rfl c_fail H (K2 Z0 Z0) (fun _ _ h => ⟨rfl, h⟩) rfl (.tail D2)
 try simp only [nr, hb28] at H
 refine Ta false 35 (Mv (ptr pb) (Ta false 35 (Cv call85 (c_now) H (K2 Z0 Z0) (.tail D2) fun t29 ts30 H => Ta false 35 (WL_rd (rd_field (u := .agg #[Iv t29.kind, Tx t29.text, Iv t29.pos, Iv t29.en]) (v := Iv t29.kind) rfl (fv47_0 _ _ _ _ )) (Ta false 35 (Bo (Iv t29.kind) (Iv 2) (.bool (t29.kind != 2)) eqg_int (binOp_neq _ _ _ _) (Pk false (Nt ?_))))))))
 cases hb32 : (t29.kind != 2)
 rotate_left 1
 · try simp only [nr, hb32] at H
   refine Tr (Mv (ptr pb) ?_)
   exact WL_fail call89 rfl c_fail H (K2 Z0 Z0) (fun _ _ h => ⟨rfl, h⟩) rfl (.tail D2)
 try simp only [nr, hb32] at H
 refine Fx (Mv (ptr pb) (Mv (ptr pb) (Cv call85 (c_now) H (K2 Z0 Z0) (.tail D2) ?_)))
 intro t33 ts34 H
 refine WL_callO call131 rfl (c_decl hK hg t33) H (K2 Z0 Z0) (fun _ _ h => ⟨rfl, h⟩) rfl (.tail D2) ?_ ?_
 · intro ts37 H
   try simp only [nr] at H
   refine Av (.pointer none) (Nz (Mv (.pointer none) (WL_rd (rd_eqPN (a := none) ptr118 rfl) (Mv (.bool true) (Pa true 49 (Pa true 49 (Pa true 49 (Pa true 49 (Pa true 49 (Pa true 49 (Pa true 49 (WL_passU (e := 56) rfl rfl (WL_passU (e := 56) rfl rfl (WL_passU (e := 56) rfl rfl (WL_passU (e := 56) rfl rfl (WL_passU (e := 56) rfl rfl (WL_passU (e := 56) rfl rfl (Pa true 49 (Pk true (Nt (Tr (Mv (ptr pb) ?_))))))))))))))))))))))
   exact WL_fail call89 rfl c_fail H (K2 Z0 Z0) (fun _ _ h => ⟨rfl, h⟩) rfl (.tail D2)
 intro x36 ts37 q38 H
 try simp only [nr] at H
 refine Av (ptr q38) (Nz (Mv (ptr q38) (WL_rd (rd_eqPN (a := (some ⟨q38, 0, none⟩)) ptr118 rfl) (Mv (.bool false) (Ta false 49 (Mv (ptr q38) (Ta false 49 (Nc q38 0 (Ta false 49 (Fa q38 0 fa122_0 (Ta false 49 (Fa q38 0 fa39_0 (Ta false 49 ?_)))))))))))))
 obtain ⟨k39, s39, n39, a39, l39⟩ := x36
 try simp only [nr] at H
 refine WL.openN Z0 fun v40 => Lo q38 0 (Iv k39) isAgg3 Z0 rfl (Ta false 49 (Bo (Iv k39) (Iv 47) (.bool (k39 == 47)) eqg_int (binOp_eql _ _ _ _) (Ta false 49 (Mv (.bool (k39 == 47)) ?_))))
 cases hb41 : (k39 == 47)
 · try simp only [nr, hb41] at H
   refine Pa false 56 (Pa false 56 (Pa false 56 (Pa false 56 (Pa false 56 (Pa false 56 (Ta false 49 (Pk false (Pk false (Nt (Fs (WC.openN (.succ Z4) fun v42 => WC_draw [12, 13, 14] [Cl q4 122 [Iv 49, Tx s1, Iv 0, .slice none 0 0, Iv a, slV v42], Cl b20 47 [Iv t17.kind, Tx t17.text, Iv t17.pos, Iv t17.en]] mixed (Dt 0 rfl rfl (Q0 (K2 Z0 (.succ Z4))) (Rm (ptr q4) rfl) (Dt 1 rfl rfl (Q0 (K2 Z0 (.succ Z4))) (Rm (ptr q4) rfl) (Dt 2 rfl rfl (Q0 (K2 Z0 (.succ Z4))) (Rn q4 0 rfl) (Dt 3 rfl rfl (Q0 (K2 Z0 (.succ Z4))) (Rf q4 0 fa122_1 rfl) (Dt 4 rfl rfl (Q0 (K2 Z0 (.succ Z4))) (Rl q4 5 (slV v42) isAgg120 rfl Z0 rfl) (Dt 5 rfl rfl (Q0 (K2 Z0 (.succ Z4))) (Rf b20 0 fa47_2 rfl) (Dt 6 rfl rfl (Q0 (K2 Z0 (.succ Z4))) (Rl b20 2 (Iv t17.pos) isAgg3 rfl Z1 rfl) (Dt 7 rfl rfl (Q0 (K2 Z0 (.succ Z4))) (Rm (ptr q38) rfl) (WD_ef 8 (by kernel_rfl) rfl rfl rfl (ef_buildSlice (E := 118) (vs := [(0, ptr q38)]) (l := [ptr q38]) rfl (bs120_1 _ rfl )) (fun _ _ => Q0 (K2 Z1 (.succ (.succ Z4)))) fun b43 => WD.ent (closeN (K2 Z3 Z3)) (WD_made 9 (by kernel_rfl) rfl rfl rfl (run_call call84 (args_map (args := [Iv 50, Tx [], Iv 0, Iv t17.pos, Sl b43 1 1]) rfl)) rfl (ent_kd1 (K2 Z1 Z0)) (Q0 (K2 Z0 Z3)) fun q44 => WD_ef 10 (by kernel_rfl) rfl rfl rfl (ef_buildSlice (E := 118) (vs := [(0, ptr q44)]) (l := [ptr q44]) rfl (bs120_1 _ rfl )) (fun _ _ => Q0 (K2 Z2 (.succ Z4))) fun b45 => WD_ef 11 (by kernel_rfl) rfl rfl rfl (ef_appendKid rfl rfl (K3 Z3 Z0 Z0) (by (try simp) <;> omega)) (fun _ _ => Q0 (K2 Z1 Z3)) fun v46 => WD_rd 12 (by kernel_rfl) rfl rfl rfl (Rn q4 0 rfl) (late_vac (i := 12) (by kernel_rfl) (by decide)) (WD_rd 13 (by kernel_rfl) rfl rfl rfl (Rf q4 0 fa122_1 rfl) (late_vac (i := 13) (by kernel_rfl) (by decide)) (WD_ef0 14 (by kernel_rfl) rfl rfl rfl (ef_store (b := q4) (o := 5) (v := slV v46) (vs := [slV v46]) sizeOf120 rfl rfl rfl rfl rfl Z1 (.skip (.skip (.skip (.skip (.skip (.put .done))))))) (late_vac (i := 14) (by kernel_rfl) (by decide)) ?_)))))))))))))))))))))))
   refine WD_done (by kernel_rfl) ?_ _
   refine At_blockN (At.ent (closeN (K2 Z0 Z0)) ?_)
   exact At_againM (k, (acc8 ++ [PT.node 50 [] 0 t17.pos [PT.node k39 s39 n39 a39 l39]])) _ H (show (acc8 ++ [PT.node 50 [] 0 t17.pos [PT.node k39 s39 n39 a39 l39]]).length + 2 * k ≤ 2 * K + 2 by (try simp) <;> omega) ⟨rfl, rfl, rfl, trivial⟩ (En Z1 (En Z1 (En Z0 D1))) (Nat.lt_succ_self _)
 try simp only [nr, hb41] at H
 refine Ta true 56 (Mv (ptr q38) (Ta true 56 (Nc q38 0 (Ta true 56 (Fa q38 0 fa122_0 (Ta true 56 (Fa q38 0 fa39_2 (Ta true 56 (Lo q38 2 (Iv n39) isAgg3 Z0 rfl (Ta true 56 (Bo (Iv n39) (Iv 1) (.bool (n39 == 1)) eqg_int (binOp_eql _ _ _ _) (Ta false 49 (Pk true (Pk false (Nt ?_)))))))))))))))
 cases hb47 : (n39 == 1)
 rotate_left 1
 · try simp only [nr, hb47] at H
   refine Tr (Mv (ptr pb) ?_)
   exact WL_fail call89 rfl c_fail H (K2 Z2 Z2) (fun _ _ h => ⟨rfl, h⟩) rfl (.tail D4)
 try simp only [nr, hb47] at H
 refine Fs (WC.openN (.succ Z4) fun v48 => WC_draw [12, 13, 14] [Cl q4 122 [Iv 49, Tx s1, Iv 0, .slice none 0 0, Iv a, slV v48], Cl b20 47 [Iv t17.kind, Tx t17.text, Iv t17.pos, Iv t17.en]] mixed (Dt 0 rfl rfl (Q0 (K2 Z0 (.succ Z4))) (Rm (ptr q4) rfl) (Dt 1 rfl rfl (Q0 (K2 Z0 (.succ Z4))) (Rm (ptr q4) rfl) (Dt 2 rfl rfl (Q0 (K2 Z0 (.succ Z4))) (Rn q4 0 rfl) (Dt 3 rfl rfl (Q0 (K2 Z0 (.succ Z4))) (Rf q4 0 fa122_1 rfl) (Dt 4 rfl rfl (Q0 (K2 Z0 (.succ Z4))) (Rl q4 5 (slV v48) isAgg120 rfl Z0 rfl) (Dt 5 rfl rfl (Q0 (K2 Z0 (.succ Z4))) (Rf b20 0 fa47_2 rfl) (Dt 6 rfl rfl (Q0 (K2 Z0 (.succ Z4))) (Rl b20 2 (Iv t17.pos) isAgg3 rfl Z1 rfl) (Dt 7 rfl rfl (Q0 (K2 Z0 (.succ Z4))) (Rm (ptr q38) rfl) (WD_ef 8 (by kernel_rfl) rfl rfl rfl (ef_buildSlice (E := 118) (vs := [(0, ptr q38)]) (l := [ptr q38]) rfl (bs120_1 _ rfl )) (fun _ _ => Q0 (K2 Z1 (.succ (.succ Z4)))) fun b49 => WD.ent (closeN (K2 Z3 Z3)) (WD_made 9 (by kernel_rfl) rfl rfl rfl (run_call call84 (args_map (args := [Iv 50, Tx [], Iv 0, Iv t17.pos, Sl b49 1 1]) rfl)) rfl (ent_kd1 (K2 Z1 Z0)) (Q0 (K2 Z0 Z3)) fun q50 => WD_ef 10 (by kernel_rfl) rfl rfl rfl (ef_buildSlice (E := 118) (vs := [(0, ptr q50)]) (l := [ptr q50]) rfl (bs120_1 _ rfl )) (fun _ _ => Q0 (K2 Z2 (.succ Z4))) fun b51 => WD_ef 11 (by kernel_rfl) rfl rfl rfl (ef_appendKid rfl rfl (K3 Z3 Z0 Z0) (by (try simp) <;> omega)) (fun _ _ => Q0 (K2 Z1 Z3)) fun v52 => WD_rd 12 (by kernel_rfl) rfl rfl rfl (Rn q4 0 rfl) (late_vac (i := 12) (by kernel_rfl) (by decide)) (WD_rd 13 (by kernel_rfl) rfl rfl rfl (Rf q4 0 fa122_1 rfl) (late_vac (i := 13) (by kernel_rfl) (by decide)) (WD_ef0 14 (by kernel_rfl) rfl rfl rfl (ef_store (b := q4) (o := 5) (v := slV v52) (vs := [slV v52]) sizeOf120 rfl rfl rfl rfl rfl Z1 (.skip (.skip (.skip (.skip (.skip (.put .done))))))) (late_vac (i := 14) (by kernel_rfl) (by decide)) ?_)))))))))))))
 refine WD_done (by kernel_rfl) ?_ _
 refine At_blockN (At.ent (closeN (K2 Z0 Z0)) ?_)
 exact At_againM (k, (acc8 ++ [PT.node 50 [] 0 t17.pos [PT.node k39 s39 n39 a39 l39]])) _ H (show (acc8 ++ [PT.node 50 [] 0 t17.pos [PT.node k39 s39 n39 a39 l39]]).length + 2 * k ≤ 2 * K + 2 by (try simp) <;> omega) ⟨rfl, rfl, rfl, trivial⟩ (En Z1 (En Z1 (En Z0 D1))) (Nat.lt_succ_self _)
theorem n_refs (hK : K ≤ 274877906944) (hg : CG g) (w : Bs) : ConM 186 [ptr pb, Tx w] pb tb L cap [] (refsM K g w) resN := by
 intro ts r H F
 show ∀ w, Sat (PO pb tb L cap ts :: TB tb L :: F) w → _
 replace H := bpureH H
 unfold refsM at H
 try simp only [nr] at H
 refine calls_of_WC (fn := f186) func186 rfl rfl (Sr (Av (.pointer none) (Ny (Mv (ptr pb) (Cv call85 (c_now) H (K2 Z0 Z0) (.tail E0) fun t1 ts2 H => WL_rd (rd_field (u := .agg #[Iv t1.kind, Tx t1.text, Iv t1.pos, Iv t1.en]) (v := Iv t1.pos) rfl (fv47_2 _ _ _ _ )) (Av (Iv t1.pos) (Nz (Mv (ptr pb) (Mv (Tx w) (Cv call134 (c_take w) H (K2 Z0 Z0) (.tail E0) fun b4 ts5 H => WL_rd (rd_not (b := b4) rfl) (Nt ?_)))))))))))
 cases hb7 : (!b4)
 · try simp only [nr, hb7] at H
   refine Fx (Mv (ptr pb) (Mv (ptr pb) (WL_rd (rd_makeFunc (us := [ptr pb]) (vs := []) rfl rfl) (Cn call217 ((c_list (Y := Pr True) (fs := [ptr pb]) (cs := []) hK call220 ((hg .ref pb tb L cap).frame (Pr True))).unframe) H (K2 Z0 Z0) (.tail E0) fun x8 ts9 q10 H => Av (ptr q10) (Ny (Mv (ptr q10) (Mv (Iv t1.pos) (Nc q10 0 (Fa q10 0 fa122_0 (Fa q10 0 fa39_4 ?_))))))))))
   obtain ⟨k11, s11, n11, a11, l11⟩ := x8
   try simp only [nr] at H
   refine WL.openN Z0 fun v12 => S1 q10 4 (Iv t1.pos) sizeOf3 Z0 (.skip (.skip (.skip (.skip (.put .done))))) (Ny (Mv (ptr q10) (Av (ptr q10) (Nr ?_))))
   try simp only [nr] at H
   refine At.ent (closeN (K2 Z0 Z0)) ?_
   exact At_ret1 results186 (fin_node H (K3 Z0 Z0 Z0) E0)
 try simp only [nr, hb7] at H
 refine Ts (Mv (ptr pb) (Cn call191 (c_empty) H (K2 Z0 Z0) (.tail E0) fun x17 ts18 q19 H => Av (ptr q19) (Nr (At_thenR ?_))))
 try simp only [nr] at H
 exact At_ret1 results186 (fin_node H (K3 Z0 Z0 Z0) E0)
theorem n_params (hK : K ≤ 274877906944) (hg : CG g) (m : Bool) : ConM 192 [ptr pb, .bool m] pb tb L cap [] (paramsM K g m) resN := by
 intro ts r H F
 show ∀ w, Sat (PO pb tb L cap ts :: TB tb L :: F) w → _
 replace H := bpureH H
 unfold paramsM at H
 try simp only [nr] at H
 refine calls_of_WC (fn := f192) func192 rfl rfl (Sr (WL_ef (ef_box (v := ptr pb) (l := [ptr pb]) rfl rfl) fun b1 => WL_ef (ef_box (v := .bool m) (l := [.bool m]) rfl rfl) fun b2 => Av (.pointer none) (Nz (Lo b1 0 (ptr pb) isAgg113 Z1 rfl (Cv call132 (c_is [41]) H (K2 Z2 Z2) (.tail D2) fun b3 ts4 H => Nt ?_)))))
 cases hb6 : (b3)
 · try simp only [nr, hb6] at H
   refine Fx (Lo b1 0 (ptr pb) isAgg113 Z3 rfl (WL_rd (rd_makeFunc (us := []) (vs := [ptr b1, ptr b2]) rfl rfl) (Cn call217 (c_list2 (fs := []) (cs := [ptr b1, ptr b2]) hK call222 (c_params1 hg b1 b2 m)) H (K4 Z0 Z0 Z1 Z0) (.tail D2) fun x7 ts8 q9 H => Av (ptr q9) (Nr ?_))))
   try simp only [nr] at H
   exact At_ret1 results192 (fin_node H (K3 Z0 Z0 Z0) D2)
 try simp only [nr, hb6] at H
 refine Ts (Lo b1 0 (ptr pb) isAgg113 Z3 rfl (Cn call191 (c_empty) H (K2 Z0 Z0) (.tail D2) fun x14 ts15 q16 H => Av (ptr q16) (Nr (At_thenR ?_))))
 try simp only [nr] at H
 exact At_ret1 results192 (fin_node H (K3 Z0 Z0 Z0) D2)
theorem n_worded (hK : K ≤ 274877906944) (hg : CG g) (t : Tk) : ConM 264 [ptr pb, .agg #[Iv t.kind, Tx t.text, Iv t.pos, Iv t.en]] pb tb L cap [] (wordedM K g t) resN := by
 intro ts r H F
 show ∀ w, Sat (PO pb tb L cap ts :: TB tb L :: F) w → _
 replace H := bpureH H
 unfold wordedM at H
 try simp only [nr] at H
 refine calls_of_WC (fn := f264) func264 rfl rfl (Sr (WL_ef (ef_box (v := .agg #[Iv t.kind, Tx t.text, Iv t.pos, Iv t.en]) (l := [Iv t.kind, Tx t.text, Iv t.pos, Iv t.en]) rfl rfl) fun b1 => Av (.pointer none) (Nt (WC_seq (WC_block (Sr (Fa b1 0 fa47_1 (Lo b1 1 (Tx t.text) isAgg9 Z0 rfl (WL_callQ (Δ := []) (v := Iv (wordsOf t.text)) call272 rfl (c_words t.text) .nil (Bo (Iv (wordsOf t.text)) (Iv 0) (.bool ((wordsOf t.text) != 0)) eqg_int (binOp_neq _ _ _ _) (Av (.bool ((wordsOf t.text) != 0)) (Nt ?_))))))))))))
 cases hb2 : ((wordsOf t.text) != 0)
 rotate_left 1
 · try simp only [nr, hb2] at H
   refine Ts (Mv (ptr pb) (Cv call178 (c_next) H (K2 Z1 Z1) (.tail D1) fun t51 ts52 H => Nt (WC_seq (WC_draw [6] [Cl b1 47 [Iv t.kind, Tx t.text, Iv t.pos, Iv t.en]] mixed (Dt 0 rfl rfl (Q0 (K1 Z2)) (Rf b1 0 fa47_1 rfl) (Dt 1 rfl rfl (Q0 (K1 Z2)) (Rl b1 1 (Tx t.text) isAgg9 rfl Z0 rfl) (Dt 3 rfl rfl (Q0 (K1 Z2)) (Rf b1 0 fa47_2 rfl) (Dt 4 rfl rfl (Q0 (K1 Z2)) (Rl b1 2 (Iv t.pos) isAgg3 rfl Z0 rfl) (WD_callP 2 (by kernel_rfl) rfl rfl rfl (Δ0 := []) (Δ := []) (v := Iv (wordsOf t.text)) (run_call call272 (args_map (args := [Tx t.text]) rfl)) (c_words t.text) .nil (Q0 (K1 Z2)) (WD_made 5 (by kernel_rfl) rfl rfl rfl (run_call call84 (args_map (args := [Iv (wordsOf t.text), Tx [], Iv 0, Iv t.pos, .slice none 0 0]) rfl)) rfl (ent_kd0) (Q0 (K1 Z2)) fun q54 => WD_rd 6 (by kernel_rfl) rfl rfl rfl (Ra (ptr q54) rfl) (late_vac (i := 6) (by kernel_rfl) (by decide)) ?_))))))))))
   refine WD_done (by kernel_rfl) ?_ _
   refine At_then (WC_ret (At_blockR (At_thenR ?_)))
   try simp only [nr] at H
   exact At_ret1 results264 (fin_node H (K3 Z0 Z0 Z0) D1)
 try simp only [nr, hb2] at H
 refine WC_false rfl (Sr (Mv (ptr pb) (Cv call134 (c_take [110, 101, 119]) H (K2 Z1 Z1) (.tail D1) fun b3 ts4 H => Av (.bool b3) (Nt ?_))))
 cases hb6 : (b3)
 · try simp only [nr, hb6] at H
   refine WC_false rfl (Sr (Mv (ptr pb) (Cv call134 (c_take [115, 117, 112, 101, 114]) H (K2 Z0 Z0) (.tail D1) fun b7 ts8 H => Av (.bool b7) (Nt ?_))))
   cases hb10 : (b7)
   · try simp only [nr, hb10] at H
     refine WC_false rfl (WC_skip (At_blockN (At_then (Sr (Mv (ptr pb) ?_)))))
     exact WL_fail call89 rfl c_fail H (K2 Z0 Z0) (fun _ _ h => ⟨rfl, h⟩) rfl (.tail D1)
   try simp only [nr, hb10] at H
   refine WC_true rfl (Sz (Mv (ptr pb) (Cv call134 (c_take [46]) H (K2 Z0 Z0) (.tail D1) fun b11 ts12 H => Nt ?_)))
   cases hb14 : (b11)
   rotate_left 1
   · try simp only [nr, hb14] at H
     refine WC_true rfl (WC_seq (WC_draw [5] [Cl b1 47 [Iv t.kind, Tx t.text, Iv t.pos, Iv t.en]] mixed (Dt 0 rfl rfl (Q0 (K1 Z2)) (Rm (ptr pb) rfl) (Dt 2 rfl rfl (Q0 (K1 Z2)) (Rf b1 0 fa47_2 rfl) (Dt 3 rfl rfl (Q0 (K1 Z2)) (Rl b1 2 (Iv t.pos) isAgg3 rfl Z0 rfl) (WD_callVm 1 (by kernel_rfl) rfl rfl rfl (run_call call184 (args_map rfl)) (c_name) H (K2 Z0 Z0) (fun _ _ h => ⟨rfl, h⟩) rfl (.tail D1) (Q0 (K1 Z0)) fun s20 ts21 hmV H => WD_made 4 (by kernel_rfl) rfl rfl rfl (run_call call84 (args_map (args := [Iv 32, Tx s20, Iv 0, Iv t.pos, .slice none 0 0]) rfl)) rfl (ent_kd0) (Q0 (K1 Z2)) fun q23 => WD_rd 5 (by kernel_rfl) rfl rfl rfl (Ra (ptr q23) rfl) (late_vac (i := 5) (by kernel_rfl) (by decide)) ?_))))))
     refine WD_done (by kernel_rfl) ?_ _
     refine At_then (WC_ret (At_thenR (At_blockR (At_thenR ?_))))
     try simp only [nr] at H
     exact At_ret1 results264 (fin_node H (K3 Z0 Z0 Z0) D1)
   try simp only [nr, hb14] at H
   refine Fs (WC_seq (WC_draw [6] [Cl b1 47 [Iv t.kind, Tx t.text, Iv t.pos, Iv t.en]] mixed (Dt 0 rfl rfl (Q0 (K1 Z2)) (Rf b1 0 fa47_2 rfl) (Dt 1 rfl rfl (Q0 (K1 Z2)) (Rl b1 2 (Iv t.pos) isAgg3 rfl Z0 rfl) (Dt 2 rfl rfl (Q0 (K1 Z2)) (Rm (ptr pb) rfl) (WD_callN 3 (by kernel_rfl) rfl rfl rfl (run_call call259 (args_map rfl)) (hg (.given) _ _ _ _) H (K2 Z0 Z0) (fun _ _ h => ⟨rfl, h⟩) rfl (.tail D1) (Q0 (K1 Z0)) fun x15 ts16 q17 H => WD_ef 4 (by kernel_rfl) rfl rfl rfl (ef_buildSlice (E := 118) (vs := [(0, ptr q17)]) (l := [ptr q17]) rfl (bs120_1 _ rfl )) (fun _ _ => Q0 (K1 Z4)) fun b18 => WD_made 5 (by kernel_rfl) rfl rfl rfl (run_call call84 (args_map (args := [Iv 31, Tx [], Iv 0, Iv t.pos, Sl b18 1 1]) rfl)) rfl (ent_kd1 (K2 Z0 Z0)) (Q0 (K1 Z2)) fun q19 => WD_rd 6 (by kernel_rfl) rfl rfl rfl (Ra (ptr q19) rfl) (late_vac (i := 6) (by kernel_rfl) (by decide)) ?_))))))
   refine WD_done (by kernel_rfl) ?_ _
   refine At_then (WC_ret (At_blockR (At_thenR ?_)))
   try simp only [nr] at H
   exact At_ret1 results264 (fin_node H (K3 Z0 Z0 Z0) D1)
 try simp only [nr, hb6] at H
 refine Ts (Mv (ptr pb) (Cv call85 (c_now) H (K2 Z0 Z0) (.tail D1) fun t24 ts25 H => WL_rd (rd_field (u := .agg #[Iv t24.kind, Tx t24.text, Iv t24.pos, Iv t24.en]) (v := Iv t24.pos) rfl (fv47_2 _ _ _ _ )) (Av (Iv t24.pos) (Ny (Mv (ptr pb) (Cv call184 (c_name) H (K2 Z0 Z0) (.tail D1) fun s27 ts28 H => Mv (Iv t24.pos) (WL_made (k := 17) (s := s27) (nu := 0) (a := t24.pos) rfl rfl (ent_kd0) fun q30 => Av (ptr q30) (Nt (WC_seq (WC_block (WC_loopM (G := Nat × PT × Nat) (fun x => True) (fun x => dotsM t24.pos x.1 x.2.1) (fun x => [(0, ptr pb), (3, ptr b1), (4, .pointer none), (5, Iv t24.pos), (6, ptr x.2.2)]) (fun x ts => TN x.2.1 x.2.2 :: PO pb tb L cap ts :: TB tb L :: Cl b1 47 [Iv t.kind, Tx t.text, Iv t.pos, Iv t.en] :: F) (fun x => x.1) (K, (PT.node 17 s27 0 t24.pos []), q30) H trivial ⟨rfl, rfl, rfl, rfl, rfl, trivial⟩ (E4 Z0 Z0 Z0 Z0) ?_)))))))))))
 rintro ⟨k, x31, q32⟩ ts33 σ hpre H
 replace hpre : True := hpre
 change (dotsM t24.pos k x31 >>= _) _ = _ at H
 rcases k with _ | k
 · exact oofK H
 rw [dotsM] at H
 try simp only [nr] at H
 show WC prog _ _ _ (upds σ [(0, ptr pb), (3, ptr b1), (4, .pointer none), (5, Iv t24.pos), (6, ptr q32)]) _ (TN x31 q32 :: PO pb tb L cap ts33 :: TB tb L :: Cl b1 47 [Iv t.kind, Tx t.text, Iv t.pos, Iv t.en] :: F)
 refine Sz (Mv (ptr pb) (Cv call134 (c_take [46]) H (K2 Z1 Z1) (.tail D2) fun b34 ts35 H => Nt ?_))
 cases hb37 : (b34)
 rotate_left 1
 · try simp only [nr, hb37] at H
   refine WC_true rfl (WC_skip (At_then (WC_block (WC_region (Mv (ptr pb) (Cv call184 (c_name) H (K2 Z0 Z0) (.tail D2) fun s46 ts47 H => Mv (Iv t24.pos) (Mv (ptr q32) (Bl 118 [ptr q32] (bs120_1 _ rfl ) fun b49 => WL_made (k := 29) (s := s46) (nu := 0) (a := t24.pos) rfl rfl (ent_kd1 (K2 Z0 Z2)) fun q50 => Av (ptr q50) (WL_nil (At_blockN ?_))))))))))
   exact At_againM (k, (PT.node 29 s46 0 t24.pos [x31]), q50) _ H trivial ⟨rfl, rfl, rfl, rfl, rfl, trivial⟩ (E4 Z0 Z0 Z0 Z0) (Nat.lt_succ_self _)
 try simp only [nr, hb37] at H
 refine WC_false rfl (WC_exit (At_thenX (At_loopX (At_blockX (At_then (Sr (Mv (ptr pb) (Cn call215 (hg (.args) _ _ _ _) H (K2 Z0 Z0) (.tail D2) fun x38 ts39 q40 H => Av (ptr q40) (Nt (WC_seq (WC_draw [8] [Cl b1 47 [Iv t.kind, Tx t.text, Iv t.pos, Iv t.en]] mixed (Dt 0 rfl rfl (Q0 (K1 Z4)) (Rf b1 0 fa47_2 rfl) (Dt 1 rfl rfl (Q0 (K1 Z4)) (Rl b1 2 (Iv t.pos) isAgg3 rfl Z0 rfl) (Dt 2 rfl rfl (Q0 (K1 Z4)) (Rm (ptr q32) rfl) (Dt 3 rfl rfl (Q0 (K1 Z4)) (Rm (ptr q40) rfl) (Dt 4 rfl rfl (Q0 (K1 Z4)) (Rm (ptr pb) rfl) (WD_callN 5 (by kernel_rfl) rfl rfl rfl (run_call call259 (args_map rfl)) (hg (.given) _ _ _ _) H (K2 Z1 Z1) (fun _ _ h => ⟨rfl, h⟩) rfl (.tail D3) (Q0 (K1 Z2)) fun x41 ts42 q43 H => WD_ef 6 (by kernel_rfl) rfl rfl rfl (ef_buildSlice (E := 118) (vs := [(0, ptr q32), (1, ptr q40), (2, ptr q43)]) (l := [ptr q32, ptr q40, ptr q43]) rfl (bs120_3 _ _ _ rfl rfl rfl )) (fun _ _ => Q0 (K1 (.succ (.succ Z4)))) fun b44 => WD_made 7 (by kernel_rfl) rfl rfl rfl (run_call call84 (args_map (args := [Iv 28, Tx [], Iv 0, Iv t.pos, Sl b44 3 3]) rfl)) rfl (ent_kd3 (K4 Z0 Z4 Z3 Z0)) (Q0 (K1 Z2)) fun q45 => WD_rd 8 (by kernel_rfl) rfl rfl rfl (Ra (ptr q45) rfl) (late_vac (i := 8) (by kernel_rfl) (by decide)) ?_)))))))))))))))))
 refine WD_done (by kernel_rfl) ?_ _
 refine At_then (WC_ret (At_blockR (At_thenR ?_)))
 try simp only [nr] at H
 exact At_ret1 results264 (fin_node H (K3 Z0 Z0 Z0) D1)
end
end Go.Proofs

namespace Go.Proofs
open Go.Px Tryz
section
variable {pb tb cap K : Nat} {L : List Tk} {g : NT → M PT}
theorem sgn_lt {n : Nat} {l : List Bs} (h : sgn n = some l) : n < 10 := by
 rcases Nat.lt_or_ge n 10 with h1 | h1
 · exact h1
 exfalso
 obtain ⟨m, rfl⟩ : ∃ m, n = m + 10 := ⟨n - 10, by omega⟩
 cases h
theorem sgn_len {n : Nat} {l : List Bs} (h : sgn n = some l) : l.length ≤ 6 := by
 match n, h with
 | 0, h | 1, h | 2, h | 3, h | 4, h | 5, h | 6, h | 7, h | 8, h | 9, h => cases h; decide
theorem n_level (hg : CG g) (n : Nat) : ConM 193 [ptr pb, Iv n] pb tb L cap [] (levelM K g n) resN := by
 intro ts r H F
 show ∀ w, Sat (PO pb tb L cap ts :: TB tb L :: F) w → _
 replace H := bpureH H
 unfold levelM at H
 cases hs : sgn n with
 | none =>
  simp only [hs] at H
  cases hn : (n == 10) with
  | false => rw [hn, cond_false] at H; exact oofK H
  | true =>
   rw [hn, cond_true] at H
   obtain rfl : n = 10 := by simpa using hn
   refine calls_of_WC (fn := f193) func193 rfl rfl (Sr (Av (.pointer none) (Nt (WC_scope0 0 rfl (Sr (Mv (Iv ((10 : Nat) : Int)) (WL_callQ (Δ := []) (v := .slice none 0 0) call223 rfl c_signs10 .nil (Av (.slice none 0 0) (Nz (Mv (.slice none 0 0) (WL_rd (rd_eqSN (a := none) underlying40 rfl) (Nt (Ts (Mv (ptr pb) (Cn call224 (hg (.unary) _ _ _ _) H (K2 Z0 Z0) (.tail E0) fun x1 ts2 q3 H => Av (ptr q3) (Nr (At_thenR (At_scopeR ?_))))))))))))))))))
   try simp only [nr] at H
   exact At_ret1 results193 (fin_node H (K3 Z0 Z0 Z0) E0)
 | some l =>
  simp only [hs] at H
  try simp only [nr] at H
  have hn9 := sgn_lt hs
  have hl6 := sgn_len hs
  refine calls_of_WC (fn := f193) func193 rfl rfl (Sr (Av (.pointer none) (Nt ?_)))
  refine WC_scopeM (G := Nat × PT × Nat × Nat × Int) (κ := fun x => pure x) (r := r) 0 rfl (fun _ => True) (fun x => againM g n l x.2.2.2.2 x.1 x.2.1) (fun x => [(0, ptr pb), (1, Iv n), (4, .pointer none), (5, Sl x.2.2.2.1 l.length l.length), (6, Iv x.2.2.2.2), (7, ptr x.2.2.1)]) (fun x ts => TN x.2.1 x.2.2.1 :: PO pb tb L cap ts :: TB tb L :: Cl x.2.2.2.1 9 (l.map fun s => Tx s) :: F) (fun x => x.1) ?_ ?_
  rotate_left 1
  · rintro ⟨k, x0, q0, b, a⟩ ts0 σ _ H
    change (againM g n l a k x0 >>= _) _ = _ at H
    show WC prog _ _ _ (upds σ [(0, ptr pb), (1, Iv n), (4, .pointer none), (5, Sl b l.length l.length), (6, Iv a), (7, ptr q0)]) _ (TN x0 q0 :: PO pb tb L cap ts0 :: TB tb L :: Cl b 9 (l.map fun s => Tx s) :: F)
    rcases k with _ | k
    · exact oofK H
    rw [againM] at H
    try simp only [nr] at H
    refine WC_seq (WC_skip (At_then (Sz (Mv (Sl b l.length l.length) (WL_rd (rd_lenS (a := (some ⟨b, 0, none⟩)) (k := l.length) runUnderlying40 rfl) (Mv (Iv 0) (Nt (WC_block (WC_loopM (G := Nat) (fun x => x ≤ l.length) (fun x => takeOne (l.drop x)) (fun x => [(0, ptr pb), (1, Iv n), (4, .pointer none), (5, Sl b l.length l.length), (6, Iv a), (7, ptr q0), (23, Sl b l.length l.length), (24, Iv l.length), (25, Iv x)]) (fun x ts => TN x0 q0 :: PO pb tb L cap ts :: TB tb L :: Cl b 9 (l.map fun s => Tx s) :: F) (fun x => l.length - x) 0 H (Nat.zero_le _) ⟨rfl, rfl, rfl, rfl, rfl, rfl, rfl, rfl, rfl, trivial⟩ (E4 Z0 Z0 Z0 Z0) ?_)))))))))
    rintro j ts23 σ9 hj H
    change (takeOne (l.drop j) >>= _) _ = _ at H
    show WC prog _ _ _ (upds σ9 [(0, ptr pb), (1, Iv n), (4, .pointer none), (5, Sl b l.length l.length), (6, Iv a), (7, ptr q0), (23, Sl b l.length l.length), (24, Iv l.length), (25, Iv j)]) _ (TN x0 q0 :: PO pb tb L cap ts23 :: TB tb L :: Cl b 9 (l.map fun s => Tx s) :: F)
    refine Sr (Bo (Iv j) (Iv l.length) (.bool (decide (((j : Nat) : Int) < ((l.length : Nat) : Int)))) eqg_int (binOp_lss _ _ _ _) (Nt (WC_seq ?_)))
    cases hbj : (decide (((j : Nat) : Int) < ((l.length : Nat) : Int)))
    · have hj2 : ¬ j < l.length := by have h9 := hbj; simp only [decide_eq_false_iff_not] at h9; omega
      rw [List.drop_eq_nil_of_le (by omega), takeOne] at H
      try simp only [nr] at H
      refine WC_false rfl (WC_exit (At_thenX (At_loopX (At_blockX (At_then (Sr (Mv (ptr q0) (Av (ptr q0) (Nr (At_scopeR ?_))))))))))
      try simp only [nr] at H
      exact At_ret1 results193 (fin_node H (K3 Z0 Z0 Z0) D1)
    have hj2 : j < l.length := by have h9 := hbj; simp only [decide_eq_true_eq] at h9; omega
    obtain ⟨s, hsj⟩ : ∃ s, l[j]? = some s := ⟨l[j], by simp [hj2]⟩
    have hd : l.drop j = s :: l.drop (j + 1) := by obtain ⟨h1, h2⟩ := List.getElem?_eq_some_iff.1 hsj; rw [List.drop_eq_getElem_cons h1, h2]
    rw [hd, takeOne] at H
    try simp only [nr] at H
    refine WC_true rfl (WC_skip (At_then (WC_seq (WC_block (Sr (WL_rd (rd_idx1 (j := j) runUnderlying40 sizeOf9 rfl rfl rfl (by omega)) ?_))))))
    refine Lo b j (Tx s) isAgg9 Z3 (by rw [List.getElem?_map, hsj]; rfl) ?_
    refine Av (Tx s) (Nt (WC_seq (WC_block (Sr (Mv (ptr pb) (Mv (Tx s) (Cv call134 (c_take s) H (K2 Z1 Z1) (.tail D2) fun b24 ts25 H => WL_rd (rd_not (b := b24) rfl) (Av (.bool (!b24)) (Nt ?_)))))))))
    cases hb27 : (!b24)
    rotate_left 1
    · try simp only [nr, hb27] at H
      refine WC_true rfl (WC_exit (At_blockY rfl (At_thenX (At_blockX (At_then (WC_region (Bo (Iv j) (Iv 1) (Iv (((j : Nat) : Int) + 1)) eqg_int (bin_add (by omega) (by omega)) (Mv (Iv (((j : Nat) : Int) + 1)) (WL_nil ?_)))))))))
      refine At_againM (j + 1) _ H (by omega) ⟨rfl, rfl, rfl, rfl, rfl, rfl, rfl, rfl, ?_, trivial⟩ (E4 Z2 Z0 Z0 Z0) (by omega)
      exact congrArg (Value.int .i64) (show ((j : Nat) : Int) + 1 = ((j + 1 : Nat) : Int) by omega)
    try simp only [nr, hb27] at H
    refine WC_false rfl (Sr (Mv (Tx s) (Bo (Tx s) (Tx [97, 115]) (.bool (s == [97, 115])) eqg_str (bin_str_eql _ _) (Av (.bool (s == [97, 115])) (Nt ?_)))))
    cases hb28 : (s == [97, 115])
    · try simp only [nr, hb28] at H
      refine WC_false rfl (WC_region (Mv (Tx s) (Mv (Iv a) (Mv (ptr q0) (Mv (ptr pb) (Mv (Iv n) (Bo (Iv n) (Iv 1) (Iv (((n + 1 : Nat) : Int))) eqg_int (by rw [show ((n + 1 : Nat) : Int) = ((n : Nat) : Int) + 1 from by omega]; exact bin_add (by omega) (by omega)) (Cn call193 (hg (.level (n + 1)) _ _ _ _) H (K2 Z0 Z0) (.tail D2) fun x29 ts30 q31 H => Bl 118 [ptr q0, ptr q31] (bs120_2 _ _ rfl rfl ) fun b32 => WL_made (k := 24) (s := s) (nu := 0) (a := a) rfl rfl (ent_kd2 (K3 Z0 Z3 Z0)) fun q33 => Av (ptr q33) (WL_nil (At_blockN (At_then (WC_goto (At_blockG (At_thenG (At_loopG (At_blockG (At_thenG ?_)))))))))))))))))
      exact At_jump_again ((k, (PT.node 24 s 0 a [x0, x29]), q33, b, a), _) ⟨⟨trivial, H⟩, rfl, rfl, rfl, rfl, rfl, rfl, trivial⟩ (E4 Z0 Z0 Z0 Z0) (Nat.lt_succ_self _)
    try simp only [nr, hb28] at H
    refine Tr (Mv (Iv a) (Mv (ptr q0) (Mv (ptr pb) (Cn call88 (hg (.typed) _ _ _ _) H (K2 Z0 Z0) (.tail D2) fun x34 ts35 q36 H => Bl 118 [ptr q0, ptr q36] (bs120_2 _ _ rfl rfl ) fun b37 => WL_made (k := 33) (s := []) (nu := 0) (a := a) rfl rfl (ent_kd2 (K3 Z0 Z3 Z0)) fun q38 => Av (ptr q38) (WL_nil (At_blockN (At_then (WC_goto (At_blockG (At_thenG (At_loopG (At_blockG (At_thenG ?_)))))))))))))
    exact At_jump_again ((k, (PT.node 33 [] 0 a [x0, x34]), q38, b, a), _) ⟨⟨trivial, H⟩, rfl, rfl, rfl, rfl, rfl, rfl, trivial⟩ (E4 Z0 Z0 Z0 Z0) (Nat.lt_succ_self _)
  refine Sr (Mv (Iv n) (WL_signs hs rfl fun b => Av (Sl b l.length l.length) (Nz (Mv (Sl b l.length l.length) (WL_rd (rd_eqSN (a := (some ⟨b, 0, none⟩)) underlying40 rfl) (Nt (Fx (Mv (ptr pb) (Cv call85 (c_now) H (K2 Z1 Z1) (.tail D1) fun t1 ts2 H => WL_rd (rd_field (u := .agg #[Iv t1.kind, Tx t1.text, Iv t1.pos, Iv t1.en]) (v := Iv t1.pos) rfl (fv47_2 _ _ _ _ )) (Av (Iv t1.pos) (Ny (Mv (ptr pb) (Mv (Iv n) (Bo (Iv n) (Iv 1) (Iv (((n + 1 : Nat) : Int))) eqg_int (by rw [show ((n + 1 : Nat) : Int) = ((n : Nat) : Int) + 1 from by omega]; exact bin_add (by omega) (by omega)) (Cn call193 (hg (.level (n + 1)) _ _ _ _) H (K2 Z0 Z0) (.tail D1) fun x4 ts5 q6 H => Av (ptr q6) (Nt (WC_seq (WC_label ?_))))))))))))))))))
  rcases K with _ | k
  · exact oofK H
  rw [againM] at H
  try simp only [nr] at H
  refine At_then (Sz (Mv (Sl b l.length l.length) (WL_rd (rd_lenS (a := (some ⟨b, 0, none⟩)) (k := l.length) runUnderlying40 rfl) (Mv (Iv 0) (Nt (WC_block (WC_loopM (G := Nat) (fun x => x ≤ l.length) (fun x => takeOne (l.drop x)) (fun x => [(0, ptr pb), (1, Iv n), (4, .pointer none), (5, Sl b l.length l.length), (6, Iv t1.pos), (7, ptr q6), (23, Sl b l.length l.length), (24, Iv l.length), (25, Iv x)]) (fun x ts => TN x4 q6 :: PO pb tb L cap ts :: TB tb L :: Cl b 9 (l.map fun s => Tx s) :: F) (fun x => l.length - x) 0 H (Nat.zero_le _) ⟨rfl, rfl, rfl, rfl, rfl, rfl, rfl, rfl, rfl, trivial⟩ (E4 Z0 Z0 Z0 Z0) ?_)))))))
  rintro j ts7 σ9 hj H
  change (takeOne (l.drop j) >>= _) _ = _ at H
  show WC prog _ _ _ (upds σ9 [(0, ptr pb), (1, Iv n), (4, .pointer none), (5, Sl b l.length l.length), (6, Iv t1.pos), (7, ptr q6), (23, Sl b l.length l.length), (24, Iv l.length), (25, Iv j)]) _ (TN x4 q6 :: PO pb tb L cap ts7 :: TB tb L :: Cl b 9 (l.map fun s => Tx s) :: F)
  refine Sr (Bo (Iv j) (Iv l.length) (.bool (decide (((j : Nat) : Int) < ((l.length : Nat) : Int)))) eqg_int (binOp_lss _ _ _ _) (Nt (WC_seq ?_)))
  cases hbj : (decide (((j : Nat) : Int) < ((l.length : Nat) : Int)))
  · have hj2 : ¬ j < l.length := by have h9 := hbj; simp only [decide_eq_false_iff_not] at h9; omega
    rw [List.drop_eq_nil_of_le (by omega), takeOne] at H
    try simp only [nr] at H
    refine WC_false rfl (WC_exit (At_thenX (At_loopX (At_blockX (At_then (Sr (Mv (ptr q6) (Av (ptr q6) (Nr (At_scopeR ?_))))))))))
    try simp only [nr] at H
    exact At_ret1 results193 (fin_node H (K3 Z0 Z0 Z0) D1)
  have hj2 : j < l.length := by have h9 := hbj; simp only [decide_eq_true_eq] at h9; omega
  obtain ⟨s, hsj⟩ : ∃ s, l[j]? = some s := ⟨l[j], by simp [hj2]⟩
  have hd : l.drop j = s :: l.drop (j + 1) := by obtain ⟨h1, h2⟩ := List.getElem?_eq_some_iff.1 hsj; rw [List.drop_eq_getElem_cons h1, h2]
  rw [hd, takeOne] at H
  try simp only [nr] at H
  refine WC_true rfl (WC_skip (At_then (WC_seq (WC_block (Sr (WL_rd (rd_idx1 (j := j) runUnderlying40 sizeOf9 rfl rfl rfl (by omega)) ?_))))))
  refine Lo b j (Tx s) isAgg9 Z3 (by rw [List.getElem?_map, hsj]; rfl) ?_
  refine Av (Tx s) (Nt (WC_seq (WC_block (Sr (Mv (ptr pb) (Mv (Tx s) (Cv call134 (c_take s) H (K2 Z1 Z1) (.tail D2) fun b8 ts9 H => WL_rd (rd_not (b := b8) rfl) (Av (.bool (!b8)) (Nt ?_)))))))))
  cases hb11 : (!b8)
  rotate_left 1
  · try simp only [nr, hb11] at H
    refine WC_true rfl (WC_exit (At_blockY rfl (At_thenX (At_blockX (At_then (WC_region (Bo (Iv j) (Iv 1) (Iv (((j : Nat) : Int) + 1)) eqg_int (bin_add (by omega) (by omega)) (Mv (Iv (((j : Nat) : Int) + 1)) (WL_nil ?_)))))))))
    refine At_againM (j + 1) _ H (by omega) ⟨rfl, rfl, rfl, rfl, rfl, rfl, rfl, rfl, ?_, trivial⟩ (E4 Z2 Z0 Z0 Z0) (by omega)
    exact congrArg (Value.int .i64) (show ((j : Nat) : Int) + 1 = ((j + 1 : Nat) : Int) by omega)
  try simp only [nr, hb11] at H
  refine WC_false rfl (Sr (Mv (Tx s) (Bo (Tx s) (Tx [97, 115]) (.bool (s == [97, 115])) eqg_str (bin_str_eql _ _) (Av (.bool (s == [97, 115])) (Nt ?_)))))
  cases hb12 : (s == [97, 115])
  · try simp only [nr, hb12] at H
    refine WC_false rfl (WC_region (Mv (Tx s) (Mv (Iv t1.pos) (Mv (ptr q6) (Mv (ptr pb) (Mv (Iv n) (Bo (Iv n) (Iv 1) (Iv (((n + 1 : Nat) : Int))) eqg_int (by rw [show ((n + 1 : Nat) : Int) = ((n : Nat) : Int) + 1 from by omega]; exact bin_add (by omega) (by omega)) (Cn call193 (hg (.level (n + 1)) _ _ _ _) H (K2 Z0 Z0) (.tail D2) fun x13 ts14 q15 H => Bl 118 [ptr q6, ptr q15] (bs120_2 _ _ rfl rfl ) fun b16 => WL_made (k := 24) (s := s) (nu := 0) (a := t1.pos) rfl rfl (ent_kd2 (K3 Z0 Z3 Z0)) fun q17 => Av (ptr q17) (WL_nil (At_blockN (At_then (WC_goto (At_blockG (At_thenG (At_loopG (At_blockG (At_thenG ?_)))))))))))))))))
    exact At_jump_first ((k, (PT.node 24 s 0 t1.pos [x4, x13]), q17, b, t1.pos), _) ⟨⟨trivial, H⟩, rfl, rfl, rfl, rfl, rfl, rfl, trivial⟩ (E4 Z0 Z0 Z0 Z0)
  try simp only [nr, hb12] at H
  refine Tr (Mv (Iv t1.pos) (Mv (ptr q6) (Mv (ptr pb) (Cn call88 (hg (.typed) _ _ _ _) H (K2 Z0 Z0) (.tail D2) fun x18 ts19 q20 H => Bl 118 [ptr q6, ptr q20] (bs120_2 _ _ rfl rfl ) fun b21 => WL_made (k := 33) (s := []) (nu := 0) (a := t1.pos) rfl rfl (ent_kd2 (K3 Z0 Z3 Z0)) fun q22 => Av (ptr q22) (WL_nil (At_blockN (At_then (WC_goto (At_blockG (At_thenG (At_loopG (At_blockG (At_thenG ?_)))))))))))))
  exact At_jump_first ((k, (PT.node 33 [] 0 t1.pos [x4, x18]), q22, b, t1.pos), _) ⟨⟨trivial, H⟩, rfl, rfl, rfl, rfl, rfl, rfl, trivial⟩ (E4 Z0 Z0 Z0 Z0)
theorem n_postf (hK : K ≤ 274877906944) (hg : CG g) : ConM 244 [ptr pb] pb tb L cap [] (postfM K g) resN := by
 intro ts r H F
 show ∀ w, Sat (PO pb tb L cap ts :: TB tb L :: F) w → _
 replace H := bpureH H
 unfold postfM at H
 try simp only [nr] at H
 refine calls_of_WC (fn := f244) func244 rfl rfl (Sr (Av (.pointer none) (Nt (WC_scope0 0 rfl (Sr (Mv (ptr pb) (Cv call85 (c_now) H (K2 Z0 Z0) (.tail E0) fun t1 ts2 H => WL_rd (rd_field (u := .agg #[Iv t1.kind, Tx t1.text, Iv t1.pos, Iv t1.en]) (v := Iv t1.pos) rfl (fv47_2 _ _ _ _ )) (Av (Iv t1.pos) (Ny (Mv (ptr pb) (Cn call257 (hg (.primary) _ _ _ _) H (K2 Z0 Z0) (.tail E0) fun x4 ts5 q6 H => Av (ptr q6) (Nt (WC_seq (WC_label (At_then (WC_seq (WC_block (WC_loopM (G := Nat × PT × Nat) (fun x => True) (fun x => partsM g t1.pos x.1 x.2.1) (fun x => [(0, ptr pb), (2, .pointer none), (3, Iv t1.pos), (4, ptr x.2.2)]) (fun x ts => TN x.2.1 x.2.2 :: PO pb tb L cap ts :: TB tb L :: F) (fun x => x.1) (K, x4, q6) H trivial ⟨rfl, rfl, rfl, rfl, trivial⟩ (E3 Z0 Z0 Z0) ?_))))))))))))))))))
 rintro ⟨k, x7, q8⟩ ts9 σ hpre H
 replace hpre : True := hpre
 change (partsM g t1.pos k x7 >>= _) _ = _ at H
 rcases k with _ | k
 · exact oofK H
 rw [partsM] at H
 try simp only [nr] at H
 show WC prog _ _ _ (upds σ [(0, ptr pb), (2, .pointer none), (3, Iv t1.pos), (4, ptr q8)]) _ (TN x7 q8 :: PO pb tb L cap ts9 :: TB tb L :: F)
 refine WC_block (WC_block (Sr (Mv (ptr pb) (Cv call134 (c_take [46]) H (K2 Z1 Z1) (.tail D1) fun b10 ts11 H => Av (.bool b10) (Nt ?_)))))
 cases hb13 : (b10)
 rotate_left 1
 · try simp only [nr, hb13] at H
   refine Tr (Mv (ptr pb) (Cv call184 (c_name) H (K2 Z0 Z0) (.tail D1) fun s66 ts67 H => Mv (Iv t1.pos) (Mv (ptr q8) (Bl 118 [ptr q8] (bs120_1 _ rfl ) fun b69 => WL_made (k := 29) (s := s66) (nu := 0) (a := t1.pos) rfl rfl (ent_kd1 (K2 Z0 Z2)) fun q70 => Av (ptr q70) (WL_nil (At_blockN (At_blockN ?_)))))))
   exact At_againM (k, (PT.node 29 s66 0 t1.pos [x7]), q70) _ H trivial ⟨rfl, rfl, rfl, rfl, trivial⟩ (E3 Z0 Z0 Z0) (Nat.lt_succ_self _)
 try simp only [nr, hb13] at H
 refine WC_false rfl (Sr (Mv (ptr pb) (Cv call134 (c_take [91]) H (K2 Z0 Z0) (.tail D1) fun b14 ts15 H => Av (.bool b14) (Nt ?_))))
 cases hb17 : (b14)
 rotate_left 1
 · try simp only [nr, hb17] at H
   refine Ts (Mv (ptr pb) (Cn call87 (hg (.expr) _ _ _ _) H (K2 Z0 Z0) (.tail D1) fun x58 ts59 q60 H => Av (ptr q60) (Ny (Mv (ptr pb) (Cv call139 (c_must [93]) H (K2 Z1 Z1) (.tail D2) fun u61 ts62 H => Nt (WC_region (Mv (Iv t1.pos) (Mv (ptr q8) (Mv (ptr q60) (Bl 118 [ptr q8, ptr q60] (bs120_2 _ _ rfl rfl ) fun b64 => WL_made (k := 30) (s := []) (nu := 0) (a := t1.pos) rfl rfl (ent_kd2 (K3 Z0 Z3 Z2)) fun q65 => Av (ptr q65) (WL_nil (At_blockN (At_blockN ?_)))))))))))))
   exact At_againM (k, (PT.node 30 [] 0 t1.pos [x7, x58]), q65) _ H trivial ⟨rfl, rfl, rfl, rfl, trivial⟩ (E3 Z0 Z0 Z0) (Nat.lt_succ_self _)
 try simp only [nr, hb17] at H
 refine WC_false rfl (Sz (Mv (ptr pb) (Cv call132 (c_is [40]) H (K2 Z0 Z0) (.tail D1) fun b18 ts19 H => Av (.bool b18) (Nt ?_))))
 cases hb21 : (b18)
 rotate_left 1
 · try simp only [nr, hb21] at H
   refine WC_true rfl (WC_skip (At_then (Ts (Mv (ptr pb) (Cn call215 (hg (.args) _ _ _ _) H (K2 Z0 Z0) (.tail D1) fun x50 ts51 q52 H => Av (ptr q52) (Nt (WC_region (Mv (Iv t1.pos) (Mv (ptr q8) (Mv (ptr q52) (Mv (ptr pb) (Cn call259 (hg (.given) _ _ _ _) H (K2 Z1 Z1) (.tail D2) fun x53 ts54 q55 H => Bl 118 [ptr q8, ptr q52, ptr q55] (bs120_3 _ _ _ rfl rfl rfl ) fun b56 => WL_made (k := 27) (s := []) (nu := 0) (a := t1.pos) rfl rfl (ent_kd3 (K4 Z0 Z4 Z3 Z0)) fun q57 => Av (ptr q57) (WL_nil (At_blockN (At_blockN ?_)))))))))))))))
   exact At_againM (k, (PT.node 27 [] 0 t1.pos [x7, x50, x53]), q57) _ H trivial ⟨rfl, rfl, rfl, rfl, trivial⟩ (E3 Z0 Z0 Z0) (Nat.lt_succ_self _)
 try simp only [nr, hb21] at H
 refine WC_false rfl (WC_region (Mv (ptr pb) (Cv call132 (c_is [60]) H (K2 Z0 Z0) (.tail D1) fun b22 ts23 H => Mv (.bool b22) ?_)))
 cases hb25 : (b22)
 · try simp only [nr, hb25] at H
   refine Pa false 38 (Pa false 38 (Pk false (Av (.bool false) (Nt (WC_false rfl (Sr (Mv (ptr pb) (Cv call134 (c_take [33]) H (K2 Z0 Z0) (.tail D1) fun b26 ts27 H => Av (.bool b26) (Nt ?_)))))))))
   cases hb29 : (b26)
   · try simp only [nr, hb29] at H
     refine WC_false rfl (WC_exit (At_blockY rfl (At_blockY rfl (At_loopX (At_blockX (At_then (Sr (Mv (ptr q8) (Av (ptr q8) (Nr (At_scopeR ?_)))))))))))
     try simp only [nr] at H
     exact At_ret1 results244 (fin_node H (K3 Z2 Z0 Z0) E0)
   try simp only [nr, hb29] at H
   refine Tr (Mv (Iv t1.pos) (Mv (ptr q8) (Bl 118 [ptr q8] (bs120_1 _ rfl ) fun b30 => WL_made (k := 34) (s := []) (nu := 0) (a := t1.pos) rfl rfl (ent_kd1 (K2 Z0 Z2)) fun q31 => Av (ptr q31) (WL_nil (At_blockN (At_blockN ?_))))))
   exact At_againM (k, (PT.node 34 [] 0 t1.pos [x7]), q31) _ H trivial ⟨rfl, rfl, rfl, rfl, trivial⟩ (E3 Z0 Z0 Z0) (Nat.lt_succ_self _)
 try simp only [nr, hb25] at H
 refine Ta true 38 (Mv (ptr pb) (Ta true 38 (Cv call258 (c_calls hg) H (K2 Z0 Z0) (.tail D1) fun b32 ts33 H => Pk true (Av (.bool b32) (Nt ?_)))))
 cases hb35 : (b32)
 rotate_left 1
 · try simp only [nr, hb35] at H
   refine Ts (Mv (ptr pb) (Cn call215 (hg (.args) _ _ _ _) H (K2 Z0 Z0) (.tail D1) fun x42 ts43 q44 H => Av (ptr q44) (Nt (WC_region (Mv (Iv t1.pos) (Mv (ptr q8) (Mv (ptr q44) (Mv (ptr pb) (Cn call259 (hg (.given) _ _ _ _) H (K2 Z1 Z1) (.tail D2) fun x45 ts46 q47 H => Bl 118 [ptr q8, ptr q44, ptr q47] (bs120_3 _ _ _ rfl rfl rfl ) fun b48 => WL_made (k := 27) (s := []) (nu := 0) (a := t1.pos) rfl rfl (ent_kd3 (K4 Z0 Z4 Z3 Z0)) fun q49 => Av (ptr q49) (WL_nil (At_blockN (At_blockN ?_))))))))))))
   exact At_againM (k, (PT.node 27 [] 0 t1.pos [x7, x42, x45]), q49) _ H trivial ⟨rfl, rfl, rfl, rfl, trivial⟩ (E3 Z0 Z0 Z0) (Nat.lt_succ_self _)
 try simp only [nr, hb35] at H
 refine WC_false rfl (Sr (Mv (ptr pb) (Cv call134 (c_take [33]) H (K2 Z0 Z0) (.tail D1) fun b36 ts37 H => Av (.bool b36) (Nt ?_))))
 cases hb39 : (b36)
 · try simp only [nr, hb39] at H
   refine WC_false rfl (WC_exit (At_blockY rfl (At_blockY rfl (At_loopX (At_blockX (At_then (Sr (Mv (ptr q8) (Av (ptr q8) (Nr (At_scopeR ?_)))))))))))
   try simp only [nr] at H
   exact At_ret1 results244 (fin_node H (K3 Z2 Z0 Z0) E0)
 try simp only [nr, hb39] at H
 refine Tr (Mv (Iv t1.pos) (Mv (ptr q8) (Bl 118 [ptr q8] (bs120_1 _ rfl ) fun b40 => WL_made (k := 34) (s := []) (nu := 0) (a := t1.pos) rfl rfl (ent_kd1 (K2 Z0 Z2)) fun q41 => Av (ptr q41) (WL_nil (At_blockN (At_blockN ?_))))))
 exact At_againM (k, (PT.node 34 [] 0 t1.pos [x7]), q41) _ H trivial ⟨rfl, rfl, rfl, rfl, trivial⟩ (E3 Z0 Z0 Z0) (Nat.lt_succ_self _)
end
end Go.Proofs

namespace Go.Proofs
open Go.Px
theorem cg_step {K : Nat} (hK : K ≤ 274877906944) {g : NT → M PT} (hg : CG g) : CG (stepM K g) := fun nt pb tb L cap => by
 cases nt with
 | statement => exact n_statement hK hg
 | expr => exact n_expr hg
 | typed => exact n_typed hK hg
 | block => exact n_block hK hg
 | branch => exact n_branch hg
 | round => exact n_round hg
 | cond => exact n_cond hg
 | rows => exact n_rows hK hg
 | objectType => exact n_objectType hK hg
 | plain => exact n_plain hg
 | optional => exact n_optional hg
 | args => exact n_args hK hg
 | part => exact n_part hg
 | ref => exact n_ref hK hg
 | piece => exact n_piece hg
 | unary => exact n_unary hg
 | arrowType => exact n_arrowType hg
 | postf => exact n_postf hK hg
 | primary => exact n_primary hK hg
 | given => exact n_given hK hg
 | template => exact n_template hK hg
 | object => exact n_object hK hg
 | loop a => exact n_loop hg a
 | ended k a m => exact n_ended hg k a m
 | tri a => exact n_tri hg a
 | arrowed a => exact n_arrowed hK hg a
 | enu n a => exact n_enu hK hg n a
 | variabl n a => exact n_variabl hg n a
 | functio k a => exact n_functio hK hg k a
 | clas a => exact n_clas hK hg a
 | namespac a => exact n_namespac hK hg a
 | refs w => exact n_refs hK hg w
 | params m => exact n_params hK hg m
 | level n => exact n_level hg n
 | worded t => exact n_worded hK hg t
theorem cg_gr {K : Nat} (hK : K ≤ 274877906944) : ∀ n, CG (gr K n)
 | 0 => fun nt pb tb L cap ts r hm => by cases hm
 | n + 1 => cg_step hK (cg_gr hK n)
end Go.Proofs
