/-
  Walks: Ua1, Pn, Kb, Ua2, Va, Ua3, Tp2, Oq2, Ua4: what single functions of the program compute.
-/
import Derived.Test.YtijedffphgckmaaGreatDoorSxTa2
import Derived.Shelf.Strings.OnBuilder
import Derived.Shelf.Strings.Count
import Derived.Shelf.Strings.Search3
import Derived.Shelf.Strconv.Itoa3
import Derived.Shelf.Strconv.AtoiAll
import Derived.Below
import Derived.Sort.Grow
import Derived.Test.YtijedffphgckmaaGreatDoorSxV6
set_option linter.unusedVariables false
set_option linter.unusedSimpArgs false
namespace Go.SX
open Go.Proofs Go.Shelf
set_option maxRecDepth 100000
set_option maxHeartbeats 400000000
def qb7 (l : List (Nat × Nat)) (x : Nat) : Nat := match l with
 | [] => x
 | (a, b) :: l => if a = x then b else qb7 l x
def z84 : Ren := ⟨qb7 [(143, 107), (219, 130), (217, 145), (225, 146), (224, 147), (267, 148), (266, 156), (314, 157)], qb7 [(9, 9), (3, 3), (4, 4), (5, 5), (46, 124), (146, 192), (51, 147)], qb7 [(1, 2)]⟩
theorem zf4 : Lays.n143 Tryz.prog z84 where
 mixed := by kernel_rfl
 f143 := by kernel_rfl
 f217 := by kernel_rfl
 f219 := by kernel_rfl
 f224 := by kernel_rfl
 f225 := by kernel_rfl
 f266 := by kernel_rfl
 f267 := by kernel_rfl
 f314 := by kernel_rfl
 t3 := by kernel_rfl
 a3 := fun w => by kernel_rfl
 z3 := fun w => by kernel_rfl
 v3 := fun w => by kernel_rfl
 t4 := by kernel_rfl
 a4 := fun w => by kernel_rfl
 z4 := fun w => by kernel_rfl
 v4 := fun w => by kernel_rfl
 t5 := by kernel_rfl
 a5 := fun w => by kernel_rfl
 z5 := fun w => by kernel_rfl
 v5 := fun w => by kernel_rfl
 t9 := by kernel_rfl
 a9 := fun w => by kernel_rfl
 z9 := fun w => by kernel_rfl
 v9 := fun w => by kernel_rfl
 t46 := by kernel_rfl
 a46 := fun w => by kernel_rfl
 z46 := fun w => by kernel_rfl
 v46 := fun w => by kernel_rfl
 t51 := by kernel_rfl
 a51 := fun w => by kernel_rfl
 z51 := fun w => by kernel_rfl
 v51 := fun w => by kernel_rfl
 t146 := by kernel_rfl
 a146 := fun w => by kernel_rfl
 z146 := fun w => by kernel_rfl
 v146 := fun w => by kernel_rfl
 g1 := by kernel_rfl
def z7z : Ren := ⟨qb7 [(138, 106), (195, 127), (218, 129), (143, 107), (219, 130), (217, 145), (225, 146), (224, 147), (267, 148), (266, 156), (314, 157)], qb7 [(9, 9), (3, 3), (4, 4), (5, 5), (0, 0), (46, 124), (146, 192), (51, 147)], qb7 [(1, 2)]⟩
theorem zj1 : Lays.n138 Tryz.prog z7z where
 mixed := by kernel_rfl
 f138 := by kernel_rfl
 f143 := by kernel_rfl
 f195 := by kernel_rfl
 f217 := by kernel_rfl
 f218 := by kernel_rfl
 f219 := by kernel_rfl
 f224 := by kernel_rfl
 f225 := by kernel_rfl
 f266 := by kernel_rfl
 f267 := by kernel_rfl
 f314 := by kernel_rfl
 t0 := by kernel_rfl
 a0 := fun w => by kernel_rfl
 z0 := fun w => by kernel_rfl
 v0 := fun w => by kernel_rfl
 t3 := by kernel_rfl
 a3 := fun w => by kernel_rfl
 z3 := fun w => by kernel_rfl
 v3 := fun w => by kernel_rfl
 t4 := by kernel_rfl
 a4 := fun w => by kernel_rfl
 z4 := fun w => by kernel_rfl
 v4 := fun w => by kernel_rfl
 t5 := by kernel_rfl
 a5 := fun w => by kernel_rfl
 z5 := fun w => by kernel_rfl
 v5 := fun w => by kernel_rfl
 t9 := by kernel_rfl
 a9 := fun w => by kernel_rfl
 z9 := fun w => by kernel_rfl
 v9 := fun w => by kernel_rfl
 t46 := by kernel_rfl
 a46 := fun w => by kernel_rfl
 z46 := fun w => by kernel_rfl
 v46 := fun w => by kernel_rfl
 t51 := by kernel_rfl
 a51 := fun w => by kernel_rfl
 z51 := fun w => by kernel_rfl
 v51 := fun w => by kernel_rfl
 t146 := by kernel_rfl
 a146 := fun w => by kernel_rfl
 z146 := fun w => by kernel_rfl
 v146 := fun w => by kernel_rfl
 g1 := by kernel_rfl
def z24 : Ren := ⟨qb7 [(156, 40), (165, 63), (166, 64), (169, 65), (240, 89), (241, 90), (276, 111), (277, 112)], qb7 [(31, 38), (9, 9), (3, 3), (4, 4), (0, 0), (20, 20), (72, 104), (76, 108), (70, 102), (37, 58), (75, 107), (127, 126), (164, 150), (5, 5), (80, 110)], qb7 []⟩
theorem qu4 : Lays.n156 Tryz.prog z24 where
 mixed := by kernel_rfl
 f156 := by kernel_rfl
 f165 := by kernel_rfl
 f166 := by kernel_rfl
 f169 := by kernel_rfl
 f240 := by kernel_rfl
 f241 := by kernel_rfl
 f276 := by kernel_rfl
 f277 := by kernel_rfl
 t0 := by kernel_rfl
 a0 := fun w => by kernel_rfl
 z0 := fun w => by kernel_rfl
 v0 := fun w => by kernel_rfl
 t3 := by kernel_rfl
 a3 := fun w => by kernel_rfl
 z3 := fun w => by kernel_rfl
 v3 := fun w => by kernel_rfl
 t4 := by kernel_rfl
 a4 := fun w => by kernel_rfl
 z4 := fun w => by kernel_rfl
 v4 := fun w => by kernel_rfl
 t9 := by kernel_rfl
 a9 := fun w => by kernel_rfl
 z9 := fun w => by kernel_rfl
 v9 := fun w => by kernel_rfl
 t20 := by kernel_rfl
 a20 := fun w => by kernel_rfl
 z20 := fun w => by kernel_rfl
 v20 := fun w => by kernel_rfl
 t31 := by kernel_rfl
 a31 := fun w => by kernel_rfl
 z31 := fun w => by kernel_rfl
 v31 := fun w => by kernel_rfl
 t37 := by kernel_rfl
 a37 := fun w => by kernel_rfl
 z37 := fun w => by kernel_rfl
 v37 := fun w => by kernel_rfl
 t70 := by kernel_rfl
 a70 := fun w => by kernel_rfl
 z70 := fun w => by kernel_rfl
 v70 := fun w => by kernel_rfl
 t72 := by kernel_rfl
 a72 := fun w => by kernel_rfl
 z72 := fun w => by kernel_rfl
 v72 := fun w => by kernel_rfl
 t75 := by kernel_rfl
 a75 := fun w => by kernel_rfl
 z75 := fun w => by kernel_rfl
 v75 := fun w => by kernel_rfl
 t76 := by kernel_rfl
 a76 := fun w => by kernel_rfl
 z76 := fun w => by kernel_rfl
 v76 := fun w => by kernel_rfl
 t127 := by kernel_rfl
 a127 := fun w => by kernel_rfl
 z127 := fun w => by kernel_rfl
 v127 := fun w => by kernel_rfl
 t164 := by kernel_rfl
 a164 := fun w => by kernel_rfl
 z164 := fun w => by kernel_rfl
 v164 := fun w => by kernel_rfl
def zf2 : Ren := ⟨qb7 [(171, 61), (243, 86), (246, 108), (283, 131), (284, 132), (285, 133), (286, 134), (129, 150), (317, 149), (318, 151), (319, 152), (320, 88), (337, 109), (338, 110)], qb7 [(3, 3), (9, 9), (2, 2), (4, 4), (171, 165), (0, 0), (53, 149), (37, 58), (5, 5), (173, 167), (212, 180), (51, 147), (20, 20), (213, 181), (46, 124), (232, 169), (233, 170)], qb7 [(17, 3), (18, 0), (19, 1)]⟩
theorem zn1 : LaysM.n171 Tryz.prog zf2 where
 mixed := by kernel_rfl
 f129 := by kernel_rfl
 f171 := by kernel_rfl
 f243 := by kernel_rfl
 f246 := by kernel_rfl
 f283 := by kernel_rfl
 f284 := by kernel_rfl
 f285 := by kernel_rfl
 f286 := by kernel_rfl
 f317 := by kernel_rfl
 f318 := by kernel_rfl
 f319 := by kernel_rfl
 f320 := by kernel_rfl
 f337 := by kernel_rfl
 f338 := by kernel_rfl
 t0 := by kernel_rfl
 a0 := fun w => by kernel_rfl
 z0 := fun w => by kernel_rfl
 v0 := fun w => by kernel_rfl
 t2 := by kernel_rfl
 a2 := fun w => by kernel_rfl
 z2 := fun w => by kernel_rfl
 v2 := fun w => by kernel_rfl
 t3 := by kernel_rfl
 a3 := fun w => by kernel_rfl
 z3 := fun w => by kernel_rfl
 v3 := fun w => by kernel_rfl
 t4 := by kernel_rfl
 a4 := fun w => by kernel_rfl
 z4 := fun w => by kernel_rfl
 v4 := fun w => by kernel_rfl
 t5 := by kernel_rfl
 a5 := fun w => by kernel_rfl
 z5 := fun w => by kernel_rfl
 v5 := fun w => by kernel_rfl
 t9 := by kernel_rfl
 a9 := fun w => by kernel_rfl
 z9 := fun w => by kernel_rfl
 v9 := fun w => by kernel_rfl
 t20 := by kernel_rfl
 a20 := fun w => by kernel_rfl
 z20 := fun w => by kernel_rfl
 v20 := fun w => by kernel_rfl
 t37 := by kernel_rfl
 a37 := fun w => by kernel_rfl
 z37 := fun w => by kernel_rfl
 v37 := fun w => by kernel_rfl
 t46 := by kernel_rfl
 a46 := fun w => by kernel_rfl
 z46 := fun w => by kernel_rfl
 v46 := fun w => by kernel_rfl
 t51 := by kernel_rfl
 a51 := fun w => by kernel_rfl
 z51 := fun w => by kernel_rfl
 v51 := fun w => by kernel_rfl
 t53 := by kernel_rfl
 a53 := fun w => by kernel_rfl
 z53 := fun w => by kernel_rfl
 v53 := fun w => by kernel_rfl
 t171 := by kernel_rfl
 a171 := fun w => by kernel_rfl
 z171 := fun w => by kernel_rfl
 v171 := fun w => by kernel_rfl
 t173 := by kernel_rfl
 a173 := fun w => by kernel_rfl
 z173 := fun w => by kernel_rfl
 v173 := fun w => by kernel_rfl
 t212 := by kernel_rfl
 a212 := fun w => by kernel_rfl
 z212 := fun w => by kernel_rfl
 v212 := fun w => by kernel_rfl
 t213 := by kernel_rfl
 a213 := fun w => by kernel_rfl
 z213 := fun w => by kernel_rfl
 t232 := by kernel_rfl
 a232 := fun w => by kernel_rfl
 z232 := fun w => by kernel_rfl
 v232 := fun w => by kernel_rfl
 t233 := by kernel_rfl
 a233 := fun w => by kernel_rfl
 z233 := fun w => by kernel_rfl
 v233 := fun w => by kernel_rfl
 g17 := by kernel_rfl
 g18 := by kernel_rfl
 g19 := by kernel_rfl
 i0 := by kernel_rfl
 i2 := by kernel_rfl
 i3 := by kernel_rfl
 i4 := by kernel_rfl
 i5 := by kernel_rfl
 i9 := by kernel_rfl
 i20 := by kernel_rfl
 i37 := by kernel_rfl
 i46 := by kernel_rfl
 i51 := by kernel_rfl
 i53 := by kernel_rfl
 i171 := by kernel_rfl
 i173 := by kernel_rfl
 i212 := by kernel_rfl
 i232 := by kernel_rfl
 i233 := by kernel_rfl
 m17 := by kernel_rfl
 m18 := by kernel_rfl
 m19 := by kernel_rfl
def zf7 : Ren := ⟨qb7 [(172, 103), (244, 119), (245, 120), (247, 137), (279, 138), (280, 139), (281, 140), (282, 141), (287, 153), (316, 154), (171, 61), (205, 155), (321, 158), (322, 159), (243, 86), (246, 108), (283, 131), (284, 132), (285, 133), (286, 134), (129, 150), (317, 149), (318, 151), (319, 152), (320, 88), (337, 109), (338, 110)], qb7 [(9, 9), (3, 3), (75, 107), (76, 108), (4, 4), (5, 5), (167, 173), (37, 58), (0, 0), (85, 174), (2, 2), (168, 176), (53, 149), (175, 182), (46, 124), (210, 186), (127, 126), (145, 197), (143, 195), (21, 21), (171, 165), (173, 167), (212, 180), (51, 147), (20, 20), (213, 181), (232, 169), (233, 170), (80, 110)], qb7 [(15, 4), (16, 5), (17, 3), (18, 0), (19, 1)]⟩
theorem qz9 : LaysC.n172 Tryz.prog zf7 where
 mixed := by kernel_rfl
 f129 := by kernel_rfl
 f171 := by kernel_rfl
 f172 := by kernel_rfl
 f205 := by kernel_rfl
 f243 := by kernel_rfl
 f244 := by kernel_rfl
 f245 := by kernel_rfl
 f246 := by kernel_rfl
 f247 := by kernel_rfl
 f279 := by kernel_rfl
 f280 := by kernel_rfl
 f281 := by kernel_rfl
 f282 := by kernel_rfl
 f283 := by kernel_rfl
 f284 := by kernel_rfl
 f285 := by kernel_rfl
 f286 := by kernel_rfl
 f287 := by kernel_rfl
 f316 := by kernel_rfl
 f317 := by kernel_rfl
 f318 := by kernel_rfl
 f319 := by kernel_rfl
 f320 := by kernel_rfl
 f321 := by kernel_rfl
 f322 := by kernel_rfl
 f337 := by kernel_rfl
 f338 := by kernel_rfl
 t0 := by kernel_rfl
 a0 := fun w => by kernel_rfl
 z0 := fun w => by kernel_rfl
 v0 := fun w => by kernel_rfl
 t2 := by kernel_rfl
 a2 := fun w => by kernel_rfl
 z2 := fun w => by kernel_rfl
 v2 := fun w => by kernel_rfl
 t3 := by kernel_rfl
 a3 := fun w => by kernel_rfl
 z3 := fun w => by kernel_rfl
 v3 := fun w => by kernel_rfl
 t4 := by kernel_rfl
 a4 := fun w => by kernel_rfl
 z4 := fun w => by kernel_rfl
 v4 := fun w => by kernel_rfl
 t5 := by kernel_rfl
 a5 := fun w => by kernel_rfl
 z5 := fun w => by kernel_rfl
 v5 := fun w => by kernel_rfl
 t9 := by kernel_rfl
 a9 := fun w => by kernel_rfl
 z9 := fun w => by kernel_rfl
 v9 := fun w => by kernel_rfl
 t20 := by kernel_rfl
 a20 := fun w => by kernel_rfl
 z20 := fun w => by kernel_rfl
 v20 := fun w => by kernel_rfl
 t21 := by kernel_rfl
 a21 := fun w => by kernel_rfl
 z21 := fun w => by kernel_rfl
 v21 := fun w => by kernel_rfl
 t37 := by kernel_rfl
 a37 := fun w => by kernel_rfl
 z37 := fun w => by kernel_rfl
 v37 := fun w => by kernel_rfl
 t46 := by kernel_rfl
 a46 := fun w => by kernel_rfl
 z46 := fun w => by kernel_rfl
 v46 := fun w => by kernel_rfl
 t51 := by kernel_rfl
 a51 := fun w => by kernel_rfl
 z51 := fun w => by kernel_rfl
 v51 := fun w => by kernel_rfl
 t53 := by kernel_rfl
 a53 := fun w => by kernel_rfl
 z53 := fun w => by kernel_rfl
 v53 := fun w => by kernel_rfl
 t75 := by kernel_rfl
 a75 := fun w => by kernel_rfl
 z75 := fun w => by kernel_rfl
 v75 := fun w => by kernel_rfl
 t76 := by kernel_rfl
 a76 := fun w => by kernel_rfl
 z76 := fun w => by kernel_rfl
 v76 := fun w => by kernel_rfl
 t85 := by kernel_rfl
 a85 := fun w => by kernel_rfl
 z85 := fun w => by kernel_rfl
 v85 := fun w => by kernel_rfl
 t127 := by kernel_rfl
 a127 := fun w => by kernel_rfl
 z127 := fun w => by kernel_rfl
 v127 := fun w => by kernel_rfl
 t143 := by kernel_rfl
 a143 := fun w => by kernel_rfl
 z143 := fun w => by kernel_rfl
 v143 := fun w => by kernel_rfl
 t145 := by kernel_rfl
 a145 := fun w => by kernel_rfl
 z145 := fun w => by kernel_rfl
 v145 := fun w => by kernel_rfl
 t167 := by kernel_rfl
 a167 := fun w => by kernel_rfl
 z167 := fun w => by kernel_rfl
 v167 := fun w => by kernel_rfl
 t168 := by kernel_rfl
 a168 := fun w => by kernel_rfl
 z168 := fun w => by kernel_rfl
 v168 := fun w => by kernel_rfl
 t171 := by kernel_rfl
 a171 := fun w => by kernel_rfl
 z171 := fun w => by kernel_rfl
 v171 := fun w => by kernel_rfl
 t173 := by kernel_rfl
 a173 := fun w => by kernel_rfl
 z173 := fun w => by kernel_rfl
 v173 := fun w => by kernel_rfl
 t175 := by kernel_rfl
 a175 := fun w => by kernel_rfl
 z175 := fun w => by kernel_rfl
 v175 := fun w => by kernel_rfl
 t210 := by kernel_rfl
 a210 := fun w => by kernel_rfl
 z210 := fun w => by kernel_rfl
 v210 := fun w => by kernel_rfl
 t212 := by kernel_rfl
 a212 := fun w => by kernel_rfl
 z212 := fun w => by kernel_rfl
 v212 := fun w => by kernel_rfl
 t213 := by kernel_rfl
 a213 := fun w => by kernel_rfl
 z213 := fun w => by kernel_rfl
 t232 := by kernel_rfl
 a232 := fun w => by kernel_rfl
 z232 := fun w => by kernel_rfl
 v232 := fun w => by kernel_rfl
 t233 := by kernel_rfl
 a233 := fun w => by kernel_rfl
 z233 := fun w => by kernel_rfl
 v233 := fun w => by kernel_rfl
 g15 := by kernel_rfl
 g16 := by kernel_rfl
 g17 := by kernel_rfl
 g18 := by kernel_rfl
 g19 := by kernel_rfl
 t80 := by kernel_rfl
 a80 := fun w => by kernel_rfl
 z80 := fun w => by kernel_rfl
 v80 := fun w => by kernel_rfl
 i0 := by kernel_rfl
 i2 := by kernel_rfl
 i3 := by kernel_rfl
 i4 := by kernel_rfl
 i5 := by kernel_rfl
 i9 := by kernel_rfl
 i20 := by kernel_rfl
 i21 := by kernel_rfl
 i37 := by kernel_rfl
 i46 := by kernel_rfl
 i51 := by kernel_rfl
 i53 := by kernel_rfl
 i75 := by kernel_rfl
 i76 := by kernel_rfl
 i80 := by kernel_rfl
 i85 := by kernel_rfl
 i127 := by kernel_rfl
 i143 := by kernel_rfl
 i145 := by kernel_rfl
 i167 := by kernel_rfl
 i168 := by kernel_rfl
 i171 := by kernel_rfl
 i173 := by kernel_rfl
 i175 := by kernel_rfl
 i210 := by kernel_rfl
 i212 := by kernel_rfl
 i232 := by kernel_rfl
 i233 := by kernel_rfl
 m15 := by kernel_rfl
 m16 := by kernel_rfl
 m17 := by kernel_rfl
 m18 := by kernel_rfl
 m19 := by kernel_rfl
 c0 := by kernel_rfl
 c2 := by kernel_rfl
 c3 := by kernel_rfl
 c4 := by kernel_rfl
 c5 := by kernel_rfl
 c9 := by kernel_rfl
 c20 := by kernel_rfl
 c21 := by kernel_rfl
 c37 := by kernel_rfl
 c46 := by kernel_rfl
 c51 := by kernel_rfl
 c53 := by kernel_rfl
 c75 := by kernel_rfl
 c76 := by kernel_rfl
 c80 := by kernel_rfl
 c85 := by kernel_rfl
 c127 := by kernel_rfl
 c143 := by kernel_rfl
 c145 := by kernel_rfl
 c167 := by kernel_rfl
 c168 := by kernel_rfl
 c171 := by kernel_rfl
 c173 := by kernel_rfl
 c175 := by kernel_rfl
 c210 := by kernel_rfl
 c212 := by kernel_rfl
 c213 := by kernel_rfl
 c232 := by kernel_rfl
 c233 := by kernel_rfl
theorem qn3 : Builder.Extra Tryz.prog z24 where
 sizeBuilder := by kernel_rfl
 liesBuilder := by kernel_rfl
 t5 := by kernel_rfl
 a5 := fun w => by kernel_rfl
 z5 := fun w => by kernel_rfl
 v5 := fun w => by kernel_rfl
 infoByte := by kernel_rfl
 cellsByte := by kernel_rfl
 sizeByte := by kernel_rfl
 neB5 := by decide
end Go.SX
namespace Go.SX
open Go.RowKit
variable {C : Cod}
section
variable {P : Program} {D : q09 C} {tab : Tab C} {B : q3b} {E : Env} {σ : Nat → SV C} {H : Nat → HS C} {df : List Deferred} {a : Act} {w : World} {o : Oper} {r : Option Nat}
variable {X : Ctx C} {R : q61 C} {f : FuncId} {args : List (SV C)} {dst : Option Nat} {all rest : List Oper} {k : List (It C)} {T : List (SV C)} {Hp : List (HS C)} {ch : List PanicEntry}
structure y6h (P : Program) (D : q09 C) (f : FuncId) (args : List (SV C)) (H0 : List (HS C)) (ch : List PanicEntry) (H1 : List (HS C)) : Prop where
 enter : ∀ args w, (callFunc f args).run P w = .ok (.enter f args) w
 calls : ∀ w E (hm : ∀ c, H0.length ≤ c → E.β c = .fresh) vs, Sat D w E (q0r H0) → DenA D w E args vs →
  CallsIn (Fc none) 0 P f vs.toArray w fun e w' => ∃ E', e = .panicked ch ∧ Sat D w' E' (q0r H1) ∧ Fr ⟨w, E, fun b => ∃ c, E.β c = .loc b, H0.length, hm, [], false⟩ E' w'
def qy4 (ch : List PanicEntry) (m0 : Nat) (H1 : List (HS C)) : qx3 C := fun e T Hp => e = .panic ch ∧ ∃ θ, qf9 Hp θ H1 m0
theorem q0v {m0 : Nat} {H1 : List (HS C)} (θ : List (Option Nat)) (hv : q55 Hp θ θ H1) (hid : idO m0 0 θ = true := by rfl) (hnd : ndO θ = true := by rfl) : qy4 ch m0 H1 (.panic ch) T Hp := ⟨rfl, θ, hv, hid, hnd⟩
theorem z0e {F : Fence} {n : Nat} {fn : Func} {R : Ending → World → Prop} (h : Rel D B E σ H df a w) (hK : ∀ w' E', Rel D B E' σ H [] { a with defers := [] } w' → R (.panicked ch) w') (hds : B.ds = [] := by rfl) : LeavesInM F n P fn a.tmps R a.defers (.panicking ch) w := by
 refine q8k (by simp) h fun w' E' hR => ?_
 rw [hds] at hR ⊢
 exact hK w' E' hR
theorem ze2 (A : Aux C D) (hT : q1z P D tab) {fn : Func} {c : Code} (hf : P.funcs[f]? = some fn) (hb : fn.body = some c) (henter : ∀ args w, (callFunc f args).run P w = .ok (.enter f args) w)
  {H0 : List (HS C)} {H1 : List (HS C)} (n : Nat)
  (h : q3c (args ++ qq4 (fn.ntmps - args.length)) fun T0 => q2s H0 fun Hp0 => gx P A tab ⟨none, [], H0.length, false⟩ (qy4 ch H0.length H1) n [.code c] T0 Hp0) : y6h P D f args H0 ch H1 := by
 rw [q1f, q1g] at h
 refine ⟨henter, fun w E hm vs hs hd => ?_⟩
 refine callsIn_of_wp_marks hf hb trivial ?_ rfl
 have hR := q7u (n := fn.ntmps) (m := H0.length) (hm := hm) hs hd
 have hX : qn2 D (⟨none, [], H0.length, false⟩ : Ctx C) (q3b.here w E H0.length hm) none := ⟨rfl, fun c ri hc => by simp [lkR] at hc, trivial, rfl⟩
 have := q58 (r := none) (Q := bodyPostM (Fc none) 0 P fn fun e w' => ∃ E', e = .panicked ch ∧ Sat D w' E' (q0r H1) ∧ Fr (q3b.here w E H0.length hm) E' w') A hT hX
  (fun e a w' T Hp hΦ hRL => ?_) n _ _ _ h _ _ hR
 ·exact this
 ·obtain ⟨rfl, θ, h3⟩ := hΦ
  obtain ⟨df, E1, hR1, _⟩ := hRL
  refine z0e hR1 fun w2 E2 hR2 => ?_
  obtain ⟨g1, g2, g3⟩ := q59 hR2.sat hR2.fr h3
  exact ⟨_, rfl, g2, g3⟩
theorem q31 {op : Op} {vals : List (SV C)} {hs : List (Nat × HS C)} {Y : Prop} (x : Operand) (t : TypeId) (u : Value) (h1 : op = .panic x) (h2 : y9x D (evT T x) (.iface t u)) (h3 : R (.die [{ v := .iface t u, recovered := false }] :: k) T Hp) : q93 op vals hs (Y ∨ y2x D X.m0 R op k T Hp ∨ z6r P D R op dst all rest k T Hp) :=
 ⟨.inr (.inl ⟨x, t, u, h1, h2, h3⟩)⟩
theorem z7e {op : Op} {vals : List (SV C)} {hs : List (Nat × HS C)} {Y : Prop} {v : SV C} (hnd : ∀ c, op ≠ .defer c) (h1 : ∀ (o : Oper) (E : Env) (a : Act) (w : World), o.op = op → (∀ x, Den D w E (evT T x) (a.eval x)) → ∃ u, (execOp a.eval o).run P w = .ok (.value u) w ∧ Den D w E v u)
  (h3 : q33 T dst v fun T' => R (.ops all rest :: k) T' Hp) : q93 op vals hs (Y ∨ y2x D X.m0 R op k T Hp ∨ z6r P D R op dst all rest k T Hp) :=
 ⟨.inr (.inr ⟨v, [], hnd, fun o B E df a w ho hR => by
  obtain ⟨u, h4, h5⟩ := h1 o E a w ho fun x => by rw [qt0]; exact q0p hR x
  exact q04 hR h4 h5, h3⟩)⟩
theorem q3y {vals : List (SV C)} {hs : List (Nat × HS C)} {Y : Prop} {t : TypeId} (h1 : ∀ (e : Operand → Value) (o : Oper) w, o.op = .build t #[] → (execOp e o).run P w = .ok (.value (.agg #[])) w)
  (h3 : q33 T dst (.agg []) fun T' => R (.ops all rest :: k) T' Hp) : q93 (.build t #[]) vals hs (Y ∨ y2x D X.m0 R (.build t #[]) k T Hp ∨ z6r P D R (.build t #[]) dst all rest k T Hp) :=
 z7e (fun c h => by cases h) (fun o E a w ho _ => ⟨.agg #[], h1 a.eval o w ho, by simp only [Den, DenC]; exact ⟨_, rfl, rfl⟩⟩) h3
theorem za5 {w : World} {E : Env} {u : Value} (h : Den D w E (.agg []) u) : u = .agg #[] := by
 simp only [Den, DenC] at h
 obtain ⟨cs, e1, e2⟩ := h
 have : cs = #[] := by simpa using e2
 rw [e1, this]
theorem q2y {vals : List (SV C)} {hs : List (Nat × HS C)} {Y : Prop} {t : TypeId} {x : Operand} (h1 : ∀ (e : Operand → Value) (o : Oper) w, o.op = .makeInterface t x → (execOp e o).run P w = .ok (.value (.iface t (e x))) w)
    (h2 : evT T x = .agg []) (h3 : q33 T dst (.p (.lit (.iface t (.agg #[])))) fun T' => R (.ops all rest :: k) T' Hp) : q93 (.makeInterface t x) vals hs (Y ∨ y2x D X.m0 R (.makeInterface t x) k T Hp ∨ z6r P D R (.makeInterface t x) dst all rest k T Hp) :=
  z7e (fun c h => by cases h) (fun o E a w ho hd => ⟨.iface t (a.eval x), h1 a.eval o w ho, by
    have := hd x
    rw [h2] at this
    rw [za5 this]
    simp only [Den]
    exact .lit _ rfl⟩) h3
theorem zh9 {vals : List (SV C)} {hs : List (Nat × HS C)} {Y : Prop} {s t : TypeId} {x : Operand} (h1 : ∀ (e : Operand → Value) (o : Oper) w, o.op = .typeAssert x s t true → e x = .iface t (.agg #[]) → (execOp e o).run P w = .ok (.value (.tuple #[.agg #[], .bool true])) w)
    (h2 : evT T x = .p (.lit (.iface t (.agg #[])))) (h3 : q33 T dst (.tuple [.agg [], .p (.bool true)]) fun T' => R (.ops all rest :: k) T' Hp) : q93 (.typeAssert x s t true) vals hs (Y ∨ y2x D X.m0 R (.typeAssert x s t true) k T Hp ∨ z6r P D R (.typeAssert x s t true) dst all rest k T Hp) :=
  z7e (fun c h => by cases h) (fun o E a w ho hd => ⟨_, h1 a.eval o w ho (by have := hd x; rw [h2] at this; exact q2a this), by
    simp only [Den, DenA]
    exact ⟨_, rfl, _, _, rfl, ⟨#[], rfl, rfl⟩, _, _, rfl, q22 true, rfl⟩⟩) h3
theorem zl9 {vals : List (SV C)} {hs : List (Nat × HS C)} {Y : Prop} {t : TypeId} (h1 : ∀ (e : Operand → Value) (o : Oper) w, o.op = .alloc t → (execOp e o).run P w = .ok (.value (.pointer (some ⟨w.heap.size, 0, none⟩))) (w.alloc (.cells #[] t)))
  (h3 : qd8 Hp 0 fun m => q33 T dst (.ptr m 0) fun T' => q49 Hp [(m, .vart none [])] fun Hp' => R (.ops all rest :: k) T' Hp') : q93 (.alloc t) vals hs (Y ∨ y2x D X.m0 R (.alloc t) k T Hp ∨ z6r P D R (.alloc t) dst all rest k T Hp) := by
 rw [q3h, Nat.add_zero] at h3
 exact ⟨.inr (.inr ⟨_, _, fun c h => (by cases h), fun o B E df a w ho hR => z89 hR (qg4 Hp) t none (fun _ h => (by cases h)) (by simp [DenC]) (h1 a.eval o w ho), h3⟩)⟩
theorem zw0 {vals : List (SV C)} {hs : List (Nat × HS C)} {Y : Prop} {t : TypeId} {x y : Operand} (h1 : ∀ (e : Operand → Value) (o : Oper) w ad, o.op = .store t x y → e x = .pointer (some ad) → e y = .agg #[] → (execOp e o).run P w = .ok .skip w)
    {m : Nat} (h2 : evT T x = .ptr m 0) (h4 : q0r Hp m = .vart none []) (h5 : evT T y = .agg []) (h3 : q33 T dst .any fun T' => R (.ops all rest :: k) T' Hp) : q93 (.store t x y) vals hs (Y ∨ y2x D X.m0 R (.store t x y) k T Hp ∨ z6r P D R (.store t x y) dst all rest k T Hp) :=
  ⟨.inr (.inr ⟨.any, [], fun c h => (by cases h), fun o B E df a w ho hR => by
    have hx := q0p hR x
    rw [← qt0, h2] at hx
    have hy := q0p hR y
    rw [← qt0, h5] at hy
    obtain ⟨b, cs, T', hb, _⟩ := z6d hR.sat h4
    have e := q54 hx hb
    exact ⟨undef, w, E, .inr ⟨h1 a.eval o w _ ho e (za5 hy), rfl⟩, hR, by simp only [Den]⟩, h3⟩)⟩
theorem q2z {x : SV C} {v : Value} (h : x = .p (.lit v)) : y9x D x v := fun w E u hd => by subst h; exact q2a hd
theorem ye0 {args0 : List (SV C)} {H0 H0' H1 : List (HS C)} (ρ : List (Option Nat)) (hM : y6h P D f args0 H0 ch H1) (hargs : renL ρ args0 = some args) (hH0 : q53 ρ H0 = some H0') (hat : q3q (q0r Hp) ρ H0')
  (h : z0p Hp ρ H0.length H1 (.tuple []) fun _ _ ws => q49 Hp ws fun Hp' => R (.die ch :: k) T Hp') : q8r P D X R f args dst all rest k T Hp := by
 unfold z0p at h
 rw [q3h, Nat.add_zero, q5f] at h
 unfold zo0 at h
 split at h
 ·rename_i hc
  simp only [Bool.and_eq_true] at hc
  unfold ze9 at h
  split at h
  ·rename_i H1' hH1
   split at h
   ·dsimp only at h
    rw [q30] at h
    refine q8r.dies ⟨hM.enter, fun B σ df a w E _ hR vs hd => ?_⟩ h
    refine (qv8 (Ω := fun e _ _ => e = .panicked ch) (fun w E hm vs hs hd => (hM.calls w E hm vs hs hd).mono fun e w' ⟨E', h1, h2, h3⟩ => ⟨E', h1, h2, h3⟩) ρ hargs hH0 hat _ rfl (fun k _ => q9f Hp _ (by rw [← q8c]; omega)) hc.1 (Nat.le_of_ble_eq_true hc.2) hH1 B σ df a w E hR vs hd).mono ?_
    rintro e w' ⟨e1, E1, h1, _, _, h2⟩
    exact ⟨E1, h1, by rw [q3t]; exact h2⟩
   ·exact h.elim
  ·exact h.elim
 ·exact h.elim
end
end Go.SX
namespace Go.SX
open Go.RowKit
variable {C : Cod} {P : Program} {D : q09 C} {w w' : World} {E : Env}
theorem qf5 {H : Nat → HS C} (hs : Sat D w E H) (hb : Below w.heap.size w w') : q3a w E w' E :=
 ⟨fun b h => ⟨h, hb.block b (hs.F b h)⟩, fun _ => .inl rfl, fun _ _ _ _ cs T hcs => ⟨cs, T, Row.of (hb.block _ hcs.lt) hcs, rfl⟩⟩
theorem zn6 {H : Nat → HS C} (hs : Sat D w E H) (hb : Below w.heap.size w w') : Sat D w' E H :=
 ⟨fun c => HS.ok_mono (qf5 hs hb) (hs.ok c) fun b e => hb.block b (hs.own c b e).1, fun c b e => ⟨Nat.lt_of_lt_of_le (hs.own c b e).1 hb.size, (hs.own c b e).2⟩, hs.inj, fun b h => Nat.lt_of_lt_of_le (hs.F b h) hb.size, hs.glob.mono (qf5 hs hb).F⟩
theorem q6r {f : FuncId} {args : List (SV C)} {H0 : List (HS C)} {ret : SV C} (henter : ∀ args w, (callFunc f args).run P w = .ok (.enter f args) w)
  (h : ∀ w E vs, Sat D w E (q0r H0) → DenA D w E args vs → Calls P f vs.toArray w fun e w' => ∃ v, e = .returned v ∧ Below w.heap.size w w' ∧ Den D w' E ret v) : q07 P D f args H0 ret H0 := by
 refine ⟨henter, fun w E hm vs hs hd => ?_⟩
 have h2 : CallsIn (Fc none) 0 P f vs.toArray w _ := callsIn_wide.2 (h w E vs hs hd)
 refine h2.mono ?_
 rintro e w' ⟨v, rfl, hb, hv⟩
 exact ⟨v, E, rfl, hv, zn6 hs hb, ⟨hb.os, hb.tape, hb.output, hb.size, fun b hlt _ => hb.block b hlt, qf5 hs hb, fun b hF => .inl hF, fun c b e => .inl ⟨c, e⟩⟩⟩
end Go.SX
namespace Go.SX
open Go.Proofs Go.Shelf Go.RowKit Go.Sort
set_option maxHeartbeats 400000000
set_option maxRecDepth 100000
@[reducible] def wS (l : Wd) : SV Cd := .p (.str l)
@[reducible] def wsS (l : List Wd) : SV Cd := .p (.dsl U.str l)
theorem y8d (l : Wd) (c : UInt8) : q07 Tryz.prog Dc 106 [wS l, wS [c]] [] (iS (Go.Lib.countByte l c)) [] := by
 refine q6r Tryz.call106 fun w E vs hs hd => ?_
 simp only [DenA, Den] at hd
 obtain ⟨v, v2, rfl, hv, v', v3, rfl, hv', rfl⟩ := hd
 cases hv
 cases hv'
 refine (Any.strings_Count_one zj1 ⟨⟨l⟩⟩ c w).mono ?_
 rintro e w' ⟨rfl, rfl⟩
 exact ⟨_, rfl, Below.refl _ _, .int _ _⟩
theorem y84 (l : Wd) (c : UInt8) : q07 Tryz.prog Dc 107 [wS l, wS [c]] [] (iS (Go.Lib.indexByte l c)) [] := by
 refine q6r Tryz.call107 fun w E vs hs hd => ?_
 simp only [DenA, Den] at hd
 obtain ⟨v, v2, rfl, hv, v', v3, rfl, hv', rfl⟩ := hd
 cases hv
 cases hv'
 refine (Any.strings_Index_one zf4 ⟨⟨l⟩⟩ c w).mono ?_
 rintro e w' ⟨rfl, rfl⟩
 exact ⟨_, rfl, Below.refl _ _, .int _ _⟩
theorem y06 {w : World} {E : Env} (hg : q9m Cd w E) {g : Nat} {name : String} (hn : Tryz.prog.globalNamed name = some g) (h : U.glob g ≠ []) : w.var? Tryz.prog name = some (U.glob g).toArray := by
 obtain ⟨_, ⟨cs, T, z, h2, h3⟩, _⟩ := hg.1 g h
 unfold World.var?
 rw [hn]
 simp only [Option.bind_some, h2]
 have h3 : cs.toList = U.glob g := h3
 rw [← h3]
theorem qy5 (w : World) (k : Nat) : Below w.heap.size w (w.drewN k) := ⟨rfl, rfl, rfl, Nat.le_refl _, fun _ _ => rfl⟩
theorem zi5 (w : World) (os : Array Obj) : Below w.heap.size w (grow w os) :=
 ⟨rfl, rfl, rfl, by simp [grow], fun k hk => by simp only [grow]; rw [Array.getElem?_append_left hk]⟩
theorem zm6 (n : Int) (h : -9223372036854775808 ≤ n ∧ n ≤ 9223372036854775807) : q07 Tryz.prog Dc 61 [iS n] [] (wS (q0a n)) [] := by
 refine q6r Tryz.call61 fun w E vs hs hd => ?_
 simp only [DenA, Den] at hd
 obtain ⟨v, v2, rfl, hv, rfl⟩ := hd
 cases hv
 have htab : Go.Lib.TabIs Tryz.prog w "internal/strconv.uint64pow10" .u64 Go.Lib.pow10Tab := by
  unfold Go.Lib.TabIs
  rw [y06 hs.glob (g := 3) (by kernel_rfl) (by decide)]
  exact congrArg some (by kernel_rfl)
 refine (Any.strconv_Itoa zn1 n h.1 h.2 w htab).mono ?_
 rintro e w' ⟨rfl, k, os, rfl⟩
 refine ⟨_, rfl, (qy5 w k).trans ((zi5 (w.drewN k) os).mono (qy5 w k).size), ?_⟩
 rw [y1c n h]
 exact .str _
def y5i (l : Wd) : Int := match Go.Lib.atoiAll l with
 | .ok n => n
 | Go.Lib.NumEnd.syntax => 0
 | .range => Go.Lib.atoiSat l
def y5c (l : Wd) : SV Cd := match Go.Lib.atoiAll l with
 | .ok _ => .p (.lit .nilIface)
 | _ => .iface 176 .any
theorem z5w {w : World} {E : Env} (hg : q9m Cd w E) {g : Nat} (h : U.gifc g = true) : ∃ ev, w.cell? ⟨g, 0, none⟩ = some ev ∧ (ev = .nilIface ∨ ∃ te pe, ev = .iface te pe) := by
 obtain ⟨_, v, T, z, h1, h2⟩ := hg.2 g h
 exact ⟨v, by simp [World.cell?, h1], h2⟩
theorem yc1 (l : Wd) (h : l.length ≤ 281474976710656) : q07 Tryz.prog Dc 103 [wS l] [] (.tuple [iS (y5i l), y5c l]) [] := by
 refine q6r Tryz.call103 fun w E vs hs hd => ?_
 simp only [DenA, Den] at hd
 obtain ⟨v, v2, rfl, hv, rfl⟩ := hd
 cases hv
 unfold y5i y5c
 cases ha : Go.Lib.atoiAll l with
 | ok n =>
  refine (Any.strconv_Atoi_ok qz9 ⟨⟨l⟩⟩ (by show l.length ≤ _; omega) n ha w).mono ?_
  rintro e w' ⟨rfl, hw⟩
  refine ⟨_, rfl, ?_, ?_⟩
  ·rcases hw with rfl | ⟨t, rfl⟩
   ·exact Below.refl _ _
   ·exact Go.Lib.bytesWorld_below _ _ _
  ·simp only [Den, DenA]
   exact ⟨_, rfl, _, _, rfl, .int _ _, _, _, rfl, .lit _ rfl, rfl⟩
 | range =>
  obtain ⟨ev, h1, h2⟩ := z5w hs.glob (g := 5) rfl
  refine (Any.strconv_Atoi_range qz9 ⟨⟨l⟩⟩ (by show l.length ≤ _; omega) ha ev w h1 h2).mono ?_
  rintro e w' ⟨N, rfl, _, _, hb⟩
  refine ⟨_, rfl, hb, ?_⟩
  simp only [Den, DenA]
  exact ⟨_, rfl, _, _, rfl, .int _ _, _, _, rfl, ⟨_, rfl, trivial⟩, rfl⟩
 | _ =>
  obtain ⟨ev, h1, h2⟩ := z5w hs.glob (g := 4) rfl
  refine (Any.strconv_Atoi_syntax qz9 ⟨⟨l⟩⟩ (by show l.length ≤ _; omega) ha ev w h1 h2).mono ?_
  rintro e w' ⟨N, rfl, _, _, hb⟩
  refine ⟨_, rfl, hb, ?_⟩
  simp only [Den, DenA]
  exact ⟨_, rfl, _, _, rfl, .int _ _, _, _, rfl, ⟨_, rfl, trivial⟩, rfl⟩
theorem yb4 (ws : List Wd) (hn : ws.length ≤ 140737488355328) (hl : (q6c ws).length ≤ 140737488355328) : q07 Tryz.prog Dc 40 [wsS ws, wS [32]] [] (wS (q6c ws)) [] := by
 refine q6r Tryz.call40 fun w E vs hs hd => ?_
 simp only [DenA, Den] at hd
 obtain ⟨v, v2, rfl, hv, v', v3, rfl, hv', rfl⟩ := hd
 cases hv'
 cases hv with
 | dslNil _ ad cap =>
  refine (Any.strings_Join_none qu4 qn3 ad cap ⟨⟨[32]⟩⟩ w).mono ?_
  rintro e w' ⟨rfl, rfl⟩
  exact ⟨_, rfl, Below.refl _ _, .str _⟩
 | dsl _ _ b o cap cv hF hc hcell hden =>
  rcases Nat.eq_zero_or_pos ws.length with h0 | h0
  ·obtain rfl := List.eq_nil_of_length_eq_zero h0
   refine (Any.strings_Join_none qu4 qn3 (some ⟨b, o, none⟩) cap ⟨⟨[32]⟩⟩ w).mono ?_
   rintro e w' ⟨rfl, rfl⟩
   exact ⟨_, rfl, Below.refl _ _, .str _⟩
  have hne : ws ≠ [] := fun e => by rw [e] at h0; exact absurd h0 (Nat.lt_irrefl _)
  have hmap : (ws.map fun l => (⟨⟨l⟩⟩ : ByteArray)).map (fun x : ByteArray => x.data.toList) = ws := by rw [List.map_map]; exact List.map_id _
  have hlen : (ws.map fun l => (⟨⟨l⟩⟩ : ByteArray)).length = ws.length := List.length_map ..
  have := Any.strings_Join qu4 qn3 b o cap (ws.map fun l => (⟨⟨l⟩⟩ : ByteArray)) ⟨⟨[32]⟩⟩ w (fun j x hx => by
   rw [List.getElem?_map] at hx
   cases hj : ws[j]? with
   | none => rw [hj] at hx; cases hx
   | some l =>
    rw [hj] at hx
    obtain rfl := Option.some.inj hx
    have h1 := hcell j l hj 0 (.str l) rfl
    have h2 := hden j l hj 0 (.str l) rfl
    have hcn : Cd.n U.str = 1 := rfl
    rw [hcn, Nat.mul_one, Nat.add_zero] at h1
    rw [h1]
    generalize cv j 0 = z at h2
    cases h2
    rfl) (hs.F b (hF hne)) (by rw [hlen]; exact hn) (by rw [hlen]; exact hc) (by rw [hmap]; exact hl)
  rw [hmap, hlen] at this
  refine this.mono ?_
  rintro e w' ⟨rfl, hb⟩
  exact ⟨_, rfl, hb, .str _⟩
end Go.SX
namespace Go.SX
variable {C : Cod}
section
variable {Hp : List (HS C)} {θ : List (Option Nat)} {T T' : List (SV C)} {Hp' : List (HS C)} {m0 : Nat} {ret : SV C}
theorem bkW {m0 : Nat} (h1 : ViewL Hp θ T T' := by first | ((repeat' (first | exact trivial | exact rfl | refine And.intro ?_ ?_ | exact y8y | exact fzV | exact fvV | (refine slV (by first | omega | (simp; done) | (simp; omega)) rfl ?_))); done) | fail) (h2 : q55 Hp θ θ Hp' := by
    first | ((repeat' (first | exact trivial | exact rfl | refine And.intro ?_ ?_ | exact ⟨_, rfl⟩ | exact y8y | (refine y6l ?_; assumption) | (refine y6l ?_; (apply Eq.symm); assumption) | exact fzV | exact fvV | (refine slV (by first | omega | (simp; done) | (simp; omega)) rfl ?_))); done) | fail) (h3 : idO m0 0 θ = true := by rfl) (h4 : ndO θ = true := by rfl) : zy2 m0 θ T Hp T' Hp' := ⟨h1, h2, h3, h4⟩
theorem hsW {θ l : List (Option Nat)} {m : List (HS C)} (h : q55 Hp θ l m := by first | ((repeat' (first | exact trivial | exact rfl | refine And.intro ?_ ?_ | exact ⟨_, rfl⟩ | exact y8y | (refine y6l ?_; assumption) | (refine y6l ?_; (apply Eq.symm); assumption) | exact fzV | exact fvV | (refine slV (by first | omega | (simp; done) | (simp; omega)) rfl ?_))); done) | fail) : q55 Hp θ l m := h
end
end Go.SX
namespace Go.SX
open Go.Proofs
set_option maxHeartbeats 400000000
set_option maxRecDepth 100000
def q2q : q1o → Wd
 | .n i => q0a i
 | .s l => l
def qb6 : q1o → Prop
 | .n i => -9223372036854775808 ≤ i ∧ i ≤ 9223372036854775807
 | .s _ => True
@[reducible] def ye6 (ws : List Wd) (l : List q1o) : List (HS Cd) := [.vart none [.slice 1 0 1 0 ws.length], .rows U.str ws, .rows U.anyv l]
@[reducible] def yc8 (n : Nat) (ws : List Wd) (l : List q1o) : List (HS Cd) := [.vart none [.slice 3 0 1 0 n], .dead, .rows U.anyv l, .rows U.str ws]
theorem y5z (l : List q1o) (x : q1o) (r : List q1o) (hl : l = x :: r) (ws : List Wd) (hO : ∀ x ∈ l, qb6 x) (hn : ws.length + l.length ≤ 1000000) :
  q07 Tryz.prog Dc 37 [.ptr 0 0, .slice 2 0 1 0 l.length] (ye6 ws l) (.tuple []) (yc8 (ws.length + l.length) (ws ++ l.map q2q) l) := by
 refine q00 Ax q03 Tryz.func37 (c := _) rfl Tryz.call37 200 ?_
 have hlen : 0 < l.length := by rw [hl]; simp
 have hmap : (l.map q2q).length = l.length := List.length_map ..
 refine q0u (fun i : Nat => [(10, iS i)]) (fun i => match i with
  | 0 => []
  | i + 1 => [(0, .vart none [.slice 3 0 1 0 (ws.length + (i + 1))]), (1, .dead), (3, .rows U.str (ws ++ (l.take (i + 1)).map q2q))]) (fun i => i ≤ l.length) (fun i => l.length - i) 0 (Nat.zero_le _) (by exact bkI) ?_
 rintro i hi K hK
 rcases Nat.lt_or_ge i l.length with hlt | hge
 ·have hx := hO _ (List.mem_of_getElem? (getD_some (d := Cd.dflt U.anyv) hlt))
  have ht := q2g (d := Cd.dflt U.anyv) hlt
  obtain ⟨a, ha⟩ : ∃ a, l.getD (i : Int).toNat (Cd.dflt U.anyv) = a := ⟨_, rfl⟩
  have hs : l.getD (0 + (i : Int).toNat) (Cd.dflt U.anyv) = a := by rw [Nat.zero_add]; exact ha
  rw [show l.getD i (Cd.dflt U.anyv) = a from ha] at ht
  rw [ha] at hx
  have hm : (l.take (i + 1)).map q2q = (l.take i).map q2q ++ [q2q a] := by rw [ht, List.map_append]; rfl
  have hi1 : (i : Int) + 1 = ((i + 1 : Nat) : Int) := rfl
  cases i with
  | zero =>
   have hw : ∀ b : Wd, b = q2q a → List.take ws.length ws ++ List.take 1 (List.drop 0 [b]) = ws ++ (l.take (0 + 1)).map q2q := fun b e => by rw [hm, e]; simp
   (repeat' ((conv => whnf); first | (exfalso; omega) | refine spC (fun hb => ?_) fun hb => ?_ | refine saC ?_))
   rw [hs]
   cases a with
   | s w =>
    have hw1 := hw w rfl
    (repeat' ((conv => whnf); first | refine hK 1 [some 0, some 1, some 2, some 4] _ _ ⟨by omega⟩ ⟨by omega⟩ (by exact bkW) | refine saC ?_))
   | n z =>
    have h1 := zm6 z hx
    have hw1 := hw (q0a z) rfl
    (repeat' ((conv => whnf); first | refine dpC (h1) ?_ | refine hK 1 [some 0, some 1, some 2, some 4] _ _ ⟨by omega⟩ ⟨by omega⟩ (by exact bkW) | refine taC ?_ | refine saC ?_ | refine q02 mixed ?_))
  | succ i =>
   have hw : ∀ b : Wd, b = q2q a → List.take (ws.length + (i + 1)) (ws ++ (l.take (i + 1)).map q2q) ++ List.take 1 (List.drop 0 [b]) = ws ++ (l.take (i + 1 + 1)).map q2q := fun b e => by
    rw [hm, e, List.take_of_length_le (by simp; omega)]; simp
   (repeat' ((conv => whnf); first | (exfalso; omega) | refine spC (fun hb => ?_) fun hb => ?_ | refine saC ?_))
   rw [hs]
   cases a with
   | s w =>
    have hw1 := hw w rfl
    (repeat' ((conv => whnf); first | refine hK (i + 2) [some 0, some 1, some 2, some 5] _ _ ⟨by omega⟩ ⟨by omega⟩ (by exact bkW) | refine saC ?_))
   | n z =>
    have h1 := zm6 z hx
    have hw1 := hw (q0a z) rfl
    (repeat' ((conv => whnf); first | refine dpC (h1) ?_ | refine hK (i + 2) [some 0, some 1, some 2, some 5] _ _ ⟨by omega⟩ ⟨by omega⟩ (by exact bkW) | refine taC ?_ | refine saC ?_ | refine q02 mixed ?_))
 ·cases i with
  | zero => omega
  | succ i =>
   have hw1 : ws ++ (l.take (i + 1)).map q2q = ws ++ l.map q2q := by rw [List.take_of_length_le hge]
   have hi2 : i + 1 = l.length := by omega
   (repeat' ((conv => whnf); first | (exfalso; omega) | (refine q08 [some 0, some 1, some 2, some 3] (.inl rfl) ?_ ?_ rfl rfl; (focus exact vwV); exact hsW) | refine spC (fun hb => ?_) fun hb => ?_))
@[reducible] def y9w (l : List q1o) : List (HS Cd) := [.vart none [.p (.lit (.slice none 0 0))], .rows U.anyv l]
@[reducible] def yb0 (n : Nat) (ws : List Wd) (l : List q1o) : List (HS Cd) := [.vart none [.slice 2 0 1 0 n], .rows U.anyv l, .rows U.str ws]
theorem yd6 (l : List q1o) (x : q1o) (r : List q1o) (hl : l = x :: r) (hO : ∀ x ∈ l, qb6 x) (hn : l.length ≤ 1000000) :
  q07 Tryz.prog Dc 37 [.ptr 0 0, .slice 1 0 1 0 l.length] (y9w l) (.tuple []) (yb0 l.length (l.map q2q) l) := by
 refine q00 Ax q03 Tryz.func37 (c := _) rfl Tryz.call37 200 ?_
 have hlen : 0 < l.length := by rw [hl]; simp
 have hmap : (l.map q2q).length = l.length := List.length_map ..
 refine q0u (fun i : Nat => [(10, iS i)]) (fun i => match i with
  | 0 => []
  | i + 1 => [(0, .vart none [.slice 2 0 1 0 (i + 1)]), (2, .rows U.str ((l.take (i + 1)).map q2q))]) (fun i => i ≤ l.length) (fun i => l.length - i) 0 (Nat.zero_le _) (by exact bkI) ?_
 rintro i hi K hK
 rcases Nat.lt_or_ge i l.length with hlt | hge
 ·have hx := hO _ (List.mem_of_getElem? (getD_some (d := Cd.dflt U.anyv) hlt))
  have ht := q2g (d := Cd.dflt U.anyv) hlt
  obtain ⟨a, ha⟩ : ∃ a, l.getD (i : Int).toNat (Cd.dflt U.anyv) = a := ⟨_, rfl⟩
  have hs : l.getD (0 + (i : Int).toNat) (Cd.dflt U.anyv) = a := by rw [Nat.zero_add]; exact ha
  rw [show l.getD i (Cd.dflt U.anyv) = a from ha] at ht
  rw [ha] at hx
  have hm : (l.take (i + 1)).map q2q = (l.take i).map q2q ++ [q2q a] := by rw [ht, List.map_append]; rfl
  cases i with
  | zero =>
   have hw : ∀ b : Wd, b = q2q a → List.take 1 (List.drop 0 [b]) = (l.take (0 + 1)).map q2q := fun b e => by rw [hm, e]; simp
   (repeat' ((conv => whnf); first | (exfalso; omega) | refine spC (fun hb => ?_) fun hb => ?_ | refine saC ?_))
   rw [hs]
   cases a with
   | s w =>
    have hw1 := hw w rfl
    (repeat' ((conv => whnf); first | refine hK 1 [some 0, some 1, some 3] _ _ ⟨by omega⟩ ⟨by omega⟩ (by exact bkW) | refine saC ?_))
   | n z =>
    have h1 := zm6 z hx
    have hw1 := hw (q0a z) rfl
    (repeat' ((conv => whnf); first | refine dpC (h1) ?_ | refine hK 1 [some 0, some 1, some 3] _ _ ⟨by omega⟩ ⟨by omega⟩ (by exact bkW) | refine taC ?_ | refine saC ?_ | refine q02 mixed ?_))
  | succ i =>
   have hw : ∀ b : Wd, b = q2q a → List.take (i + 1) ((l.take (i + 1)).map q2q) ++ List.take 1 (List.drop 0 [b]) = (l.take (i + 1 + 1)).map q2q := fun b e => by
    rw [hm, e, List.take_of_length_le (by simp; omega)]; simp
   (repeat' ((conv => whnf); first | (exfalso; omega) | refine spC (fun hb => ?_) fun hb => ?_ | refine saC ?_))
   rw [hs]
   cases a with
   | s w =>
    have hw1 := hw w rfl
    (repeat' ((conv => whnf); first | refine hK (i + 2) [some 0, some 1, some 4] _ _ ⟨by omega⟩ ⟨by omega⟩ (by exact bkW) | refine saC ?_))
   | n z =>
    have h1 := zm6 z hx
    have hw1 := hw (q0a z) rfl
    (repeat' ((conv => whnf); first | refine dpC (h1) ?_ | refine hK (i + 2) [some 0, some 1, some 4] _ _ ⟨by omega⟩ ⟨by omega⟩ (by exact bkW) | refine taC ?_ | refine saC ?_ | refine q02 mixed ?_))
 ·cases i with
  | zero => omega
  | succ i =>
   have hw1 : (l.take (i + 1)).map q2q = l.map q2q := by rw [List.take_of_length_le hge]
   have hi2 : i + 1 = l.length := by omega
   (repeat' ((conv => whnf); first | (exfalso; omega) | (refine q08 [some 0, some 1, some 2] (.inl rfl) ?_ ?_ rfl rfl; (focus exact vwV); exact hsW) | refine spC (fun hb => ?_) fun hb => ?_))
@[reducible] def y8o (ws : List Wd) : List (HS Cd) := [.vart none [.slice 1 0 1 0 ws.length], .rows U.str ws]
@[reducible] def z0m (n : Nat) (ws : List Wd) : List (HS Cd) := [.vart none [.slice 2 0 1 0 n], .dead, .rows U.str ws]
theorem y3p (b : Bool) (x y : Wd) (ws : List Wd) (hn : ws.length ≤ 900000) :
  q07 Tryz.prog Dc 38 [.ptr 0 0, bS b, wS x, wS y] (y8o ws) (.tuple []) (z0m (ws.length + 1) (ws ++ [if b then x else y])) := by
 have h1 := y5z [.s x] (.s x) [] rfl ws (fun a ha => by simp at ha; subst ha; trivial) (by simp; omega)
 have h2 := y5z [.s y] (.s y) [] rfl ws (fun a ha => by simp at ha; subst ha; trivial) (by simp; omega)
 cases b with
 | true =>
  refine q00 Ax q03 Tryz.func38 (c := _) rfl Tryz.call38 100 ?_
  (repeat' ((conv => whnf); first | (refine q01 [some 0, some 1, some 2] h1 rfl rfl ⟨rfl, rfl, rfl, trivial⟩ ?_) | (refine q08 [some 0, some 1, some 3] (.inl rfl) ?_ ?_ rfl rfl; (focus exact vwV); exact hsW) | refine saC ?_))
 | false =>
  refine q00 Ax q03 Tryz.func38 (c := _) rfl Tryz.call38 100 ?_
  (repeat' ((conv => whnf); first | (refine q01 [some 0, some 1, some 2] h2 rfl rfl ⟨rfl, rfl, rfl, trivial⟩ ?_) | (refine q08 [some 0, some 1, some 3] (.inl rfl) ?_ ?_ rfl rfl; (focus exact vwV); exact hsW) | refine saC ?_))
@[reducible] def y7f (n : Nat) (ws : List Wd) (l : List q1o) : List (HS Cd) := [.vart none [.slice 1 0 1 0 n], .rows U.str ws, .rows U.anyv l]
@[reducible] def qo4 (n : Nat) (ws : List Wd) : List (HS Cd) := [.vart none [.slice 1 0 1 0 n], .rows U.str ws]
theorem z7f (n : Nat) (l : List q1o) (x : q1o) (r : List q1o) (hl : l = x :: r) (ws : List Wd) (hO : ∀ x ∈ l, qb6 x) (hw : n = ws.length) (hn : n + l.length ≤ 1000000) :
  q07 Tryz.prog Dc 37 [.ptr 0 0, .slice 2 0 1 0 l.length] (y7f n ws l) (.tuple []) (yc8 (n + l.length) (ws ++ l.map q2q) l) := by
 subst hw; exact y5z l x r hl ws hO hn
theorem z35 (n : Nat) (b : Bool) (x y : Wd) (ws : List Wd) (hw : n = ws.length) (hn : n ≤ 900000) :
  q07 Tryz.prog Dc 38 [.ptr 0 0, bS b, wS x, wS y] (qo4 n ws) (.tuple []) (z0m (n + 1) (ws ++ [if b then x else y])) := by
 subst hw; exact y3p b x y ws hn
end Go.SX
namespace Go.SX
theorem z8w {x : Nat} (hx : x < 48) : (2 : Int) ^ (min (x : Int).toNat IntKind.i64.bits) = ((2 ^ x : Nat) : Int) := by
 rw [show min (x : Int).toNat IntKind.i64.bits = x by simp [IntKind.bits]; omega]
 simp
theorem zl5 {r : Int} {x : Nat} (h0 : 0 ≤ r) (hx : x < 48) : decide (((q7l .i64 r x).tmod 2) = 1) = r.toNat.testBit x := by
 obtain ⟨m, rfl⟩ : ∃ m : Nat, r = m := ⟨r.toNat, by omega⟩
 unfold q7l
 have hp : (0 : Int) ≤ ((2 ^ x : Nat) : Int) := Int.natCast_nonneg _
 rw [z8w hx, Int.fdiv_eq_ediv_of_nonneg _ hp]
 rw [show ((m : Int) / ((2 ^ x : Nat) : Int)) = ((m / 2 ^ x : Nat) : Int) from (Int.natCast_ediv _ _).symm]
 rw [show (((m / 2 ^ x : Nat) : Int).tmod 2) = (((m / 2 ^ x) % 2 : Nat) : Int) from rfl]
 simp only [Int.toNat_natCast, Nat.testBit, Nat.shiftRight_eq_div_pow, Nat.and_comm 1, Nat.and_one_is_mod]
 generalize m / 2 ^ x = q
 rcases Nat.mod_two_eq_zero_or_one q with h | h <;> simp [h]
theorem zu3 {x : Nat} (hx : x < 48) : q4p .i64 1 x = ((2 ^ x : Nat) : Int) := by
 unfold q4p
 rw [z8w hx, Int.one_mul]
 have : 2 ^ x ≤ 2 ^ 47 := Nat.pow_le_pow_right (by omega) (by omega)
 generalize 2 ^ x = q at *
 exact inR_i64 (by omega) (by omega)
theorem z9f {a b : Nat} (ha : a < 2 ^ 48) (hb : b < 2 ^ 48) : q1l .or .i64 (a : Int) (b : Int) = ((a ||| b : Nat) : Int) := by
 have e : (BitVec.ofInt 64 (a : Int) ||| BitVec.ofInt 64 (b : Int)).toNat = a ||| b := by
  rw [BitVec.toNat_or]
  have h1 : (BitVec.ofInt 64 (a : Int)).toNat = a := by simp; omega
  have h2 : (BitVec.ofInt 64 (b : Int)).toNat = b := by simp; omega
  rw [h1, h2]
 show IntKind.i64.wrap (((BitVec.ofInt 64 (a : Int) ||| BitVec.ofInt 64 (b : Int)).toNat : Nat) : Int) = _
 rw [e]
 have : a ||| b < 2 ^ 48 := Nat.or_lt_two_pow ha hb
 exact inR_i64 (by omega) (by omega)
end Go.SX
namespace Go.SX
def q1e (n : Nat) : Nat := tzF 64 n + toF 64 (n / 2 ^ tzF 64 n)
def q67 (n : Nat) : Nat := n / 2 ^ q1e n * 2 ^ q1e n
def z6h (n : Nat) : Nat × Nat := (tzF 64 n, q1e n - 1)
theorem z1x (f n : Nat) : z66 (f + 1) n = if n = 0 then [] else z6h n :: z66 f (q67 n) := rfl
def q1r : Nat → Nat → Nat
 | n, 0 => n
 | n, j + 1 => q67 (q1r n j)
theorem z22 : ∀ n j : Nat, q1r (q67 n) j = q67 (q1r n j)
 | n, 0 => rfl
 | n, j + 1 => by show q67 (q1r (q67 n) j) = q67 (q67 (q1r n j)); rw [z22 n j]
theorem q5r : ∀ (f n : Nat), n ≠ 0 → n < 2 ^ f → n % 2 ^ tzF f n = 0 ∧ n / 2 ^ tzF f n % 2 = 1 ∧ tzF f n < f
 | 0, n, h0, h => by omega
 | f + 1, n, h0, h => by
  unfold tzF
  split
  ·rename_i h1; simp; omega
  ·rename_i h1
   have h2 : n / 2 < 2 ^ f := by rw [Nat.pow_succ] at h; omega
   obtain ⟨a, b, c⟩ := q5r f (n / 2) (by omega) h2
   have e : n / 2 ^ (1 + tzF f (n / 2)) = n / 2 / 2 ^ tzF f (n / 2) := by rw [Nat.pow_add, Nat.pow_one, Nat.div_div_eq_div_mul]
   refine ⟨?_, by rw [e]; exact b, by omega⟩
   rw [Nat.pow_add, Nat.pow_one, Nat.mod_mul, a]; omega
theorem z8j {n : Nat} (h : n % 2 = 1) : 1 ≤ toF 64 n := by
 show 1 ≤ toF (63 + 1) n
 unfold toF; rw [if_pos h]; omega
theorem qh6 {n : Nat} (h0 : n ≠ 0) (h : n < 2 ^ 64) : q67 n < n := by
 obtain ⟨a, b, c⟩ := q5r 64 n h0 h
 have ht := z8j b
 have h1 : n % 2 ^ q1e n ≠ 0 := fun e => by
  have h2 : 2 ^ (tzF 64 n + 1) ∣ n := Nat.dvd_trans (Nat.pow_dvd_pow 2 (by unfold q1e; omega)) (Nat.dvd_of_mod_eq_zero e)
  obtain ⟨q, hq⟩ := h2
  have h3 : n / 2 ^ tzF 64 n = 2 * q := Nat.div_eq_of_eq_mul_right (Nat.two_pow_pos _) (by rw [← Nat.mul_assoc, ← Nat.pow_succ]; exact hq)
  omega
 have h4 := Nat.div_add_mod n (2 ^ q1e n)
 have h5 : q67 n = 2 ^ q1e n * (n / 2 ^ q1e n) := Nat.mul_comm _ _
 omega
theorem z27 : q67 0 = 0 := by unfold q67; simp
theorem q9z {n : Nat} (h : n < 2 ^ 64) : ∀ j : Nat, q1r n j ≤ n
 | 0 => Nat.le_refl _
 | j + 1 => by
  have := q9z h j
  show q67 (q1r n j) ≤ n
  by_cases h0 : q1r n j = 0
  ·rw [h0, z27]; omega
  ·have := qh6 h0 (by omega); omega
theorem z39 : ∀ (f n j : Nat), n ≤ f → n < 2 ^ 64 → (z66 f n)[j]? = if q1r n j = 0 then none else some (z6h (q1r n j))
 | 0, n, j, hn, _ => by
  obtain rfl : n = 0 := by omega
  have : q1r 0 j = 0 := by have := q9z (n := 0) (by decide) j; omega
  rw [this]; rfl
 | f + 1, n, j, hn, h64 => by
  rw [z1x]
  by_cases h0 : n = 0
  ·rw [if_pos h0]
   subst h0
   have : q1r 0 j = 0 := by have := q9z (n := 0) (by decide) j; omega
   rw [this]; rfl
  ·rw [if_neg h0]
   cases j with
   | zero => rw [show q1r n 0 = n from rfl, if_neg h0]; rfl
   | succ j =>
    have hs := qh6 h0 h64
    rw [List.getElem?_cons_succ, z39 f (q67 n) j (by omega) (by omega), z22]
    rfl
def q32 (n : Nat) : List (Nat × Nat) := z66 n n
theorem z6i {n j : Nat} (h : n < 2 ^ 64) (h0 : q1r n j ≠ 0) : (q32 n)[j]? = some (z6h (q1r n j)) := by
 unfold q32; rw [z39 n n j (Nat.le_refl _) h, if_neg h0]
theorem zr6 {n j : Nat} (h : n < 2 ^ 64) (h0 : q1r n j ≠ 0) : j < (q32 n).length := by
 rcases Nat.lt_or_ge j (q32 n).length with h1 | h1
 ·exact h1
 ·have := z6i h h0
  rw [List.getElem?_eq_none h1] at this; cases this
theorem z5y {n j : Nat} (h : n < 2 ^ 64) (h0 : q1r n j = 0) : (q32 n).length ≤ j := by
 rcases Nat.lt_or_ge j (q32 n).length with h1 | h1
 ·have := z39 n n j (Nat.le_refl _) h
  rw [if_pos h0] at this
  have h2 : (q32 n)[j]? = none := this
  rw [List.getElem?_eq_none_iff] at h2; omega
 ·exact h1
theorem zh5 {n j : Nat} (h : n < 2 ^ 64) (h0 : q1r n j ≠ 0) : (q32 n).take (j + 1) = (q32 n).take j ++ [z6h (q1r n j)] := by
 rw [List.take_add_one, z6i h h0]; rfl
theorem qk5 (y : Nat) : ∀ (l : List Int) (r : Int), q44 y (l ++ [r]) = q44 y l ++ (q32 r.toNat).flatMap (qj8 (y + l.length))
 | [], r => by simp [q44, q32]
 | a :: l, r => by
  simp only [List.cons_append, q44, qk5 (y + 1) l r, List.append_assoc, List.length_cons]
  rw [show y + 1 + l.length = y + (l.length + 1) by omega]
theorem z1c {n : Nat} (h : n < 2 ^ 64) : IntKind.u64.wrap (n : Int) = n := by
 simp only [IntKind.wrap, IntKind.signed, IntKind.bits]
 simp
 omega
theorem y3y {n : Nat} (h0 : n ≠ 0) (h : n < 2 ^ 64) : n &&& (2 ^ 64 - n) = 2 ^ tzF 64 n := by
 obtain ⟨a, b, c⟩ := q5r 64 n h0 h
 generalize tzF 64 n = k at *
 obtain ⟨m, hm⟩ := Nat.dvd_of_mod_eq_zero a
 have hm2 : n / 2 ^ k = m := by rw [hm, Nat.mul_div_cancel_left _ (Nat.two_pow_pos _)]
 rw [hm2] at b
 obtain ⟨j, rfl⟩ : ∃ j, m = 2 * j + 1 := ⟨m / 2, by omega⟩
 refine Nat.eq_of_testBit_eq fun i => ?_
 rw [Nat.testBit_and, show 2 ^ 64 - n = 2 ^ 64 - ((n - 1) + 1) by omega, Nat.testBit_two_pow_sub_succ (by omega), Nat.testBit_two_pow]
 have hn1 : n - 1 = 2 ^ k * (2 * j) + (2 ^ k - 1) := by rw [hm, Nat.mul_add]; have := Nat.two_pow_pos k; omega
 rcases Nat.lt_trichotomy i k with hi | hi | hi
 ·have e1 : n.testBit i = false := by
   rw [hm, Nat.testBit_two_pow_mul]; simp; omega
  rw [e1]; simp; omega
 ·subst hi
  have e1 : n.testBit i = true := by
   rw [hm, Nat.testBit_two_pow_mul]; simp
  have e2 : (n - 1).testBit i = false := by
   rw [Nat.testBit_eq_decide_div_mod_eq, hn1]
   have : (2 ^ i * (2 * j) + (2 ^ i - 1)) / 2 ^ i = 2 * j := by
    rw [Nat.add_comm, Nat.add_mul_div_left _ _ (Nat.two_pow_pos i), Nat.div_eq_of_lt (by have := Nat.two_pow_pos i; omega)]; omega
   rw [this]; simp
  rw [e1, e2]; simp; omega
 ·have e1 : (n - 1).testBit i = n.testBit i := by
   obtain ⟨t, rfl⟩ : ∃ t, i = (k + 1) + t := ⟨i - (k + 1), by omega⟩
   have d1 : n / 2 ^ (k + 1) = j := by
    rw [hm, Nat.pow_succ, ← Nat.div_div_eq_div_mul, Nat.mul_div_cancel_left _ (Nat.two_pow_pos _)]; omega
   have d2 : (n - 1) / 2 ^ (k + 1) = j := by
    have h5 : n - 1 = 2 ^ (k + 1) * j + (2 ^ k - 1) := by rw [hn1, Nat.pow_succ, Nat.mul_assoc]
    have h6 : 2 ^ (k + 1) = 2 * 2 ^ k := by rw [Nat.pow_succ, Nat.mul_comm]
    have h7 := Nat.two_pow_pos k
    rw [h5, Nat.add_comm, Nat.add_mul_div_left _ _ (Nat.two_pow_pos (k + 1)), Nat.div_eq_of_lt (by omega), Nat.zero_add]
   rw [Nat.add_comm (k + 1) t, ← Nat.testBit_div_two_pow, ← Nat.testBit_div_two_pow, d1, d2]
  rw [e1]
  cases n.testBit i <;> simp <;> omega
theorem z45 : ∀ (f m : Nat), m % 2 ^ toF f m = 2 ^ toF f m - 1
 | 0, m => by simp [toF, Nat.mod_one]
 | f + 1, m => by
  unfold toF
  split
  ·rename_i h1
   have ih := z45 f (m / 2)
   have hp := Nat.two_pow_pos (toF f (m / 2))
   rw [Nat.add_comm 1, Nat.pow_succ, Nat.mul_comm _ 2, Nat.mod_mul, ih]; omega
  ·simp [Nat.mod_one]
theorem zm1 : ∀ (f m : Nat), m < 2 ^ f → tzF f (2 ^ f - 1 - m) = toF f m
 | 0, m, h => rfl
 | f + 1, m, h => by
  have hp := Nat.two_pow_pos f
  have e : 2 ^ (f + 1) = 2 * 2 ^ f := by rw [Nat.pow_succ, Nat.mul_comm]
  unfold tzF toF
  by_cases h1 : m % 2 = 1
  ·rw [if_pos h1, if_neg (by omega), show (2 ^ (f + 1) - 1 - m) / 2 = 2 ^ f - 1 - m / 2 by omega, zm1 f (m / 2) (by omega)]
  ·rw [if_neg h1, if_pos (by omega)]
theorem qg2 {n : Nat} (h0 : n ≠ 0) (h : n < 2 ^ 48) : tzF 64 n < q1e n ∧ q1e n ≤ 48 := by
 obtain ⟨a, b, c⟩ := q5r 64 n h0 (by omega)
 have ht := z8j b
 have h2 := z45 64 (n / 2 ^ tzF 64 n)
 refine ⟨by unfold q1e; omega, ?_⟩
 have h3 : 2 ^ toF 64 (n / 2 ^ tzF 64 n) - 1 ≤ n / 2 ^ tzF 64 n := by rw [← h2]; exact Nat.mod_le _ _
 have h4 : 2 ^ (toF 64 (n / 2 ^ tzF 64 n) - 1) ≤ n / 2 ^ tzF 64 n := by
  obtain ⟨t, ht'⟩ : ∃ t, toF 64 (n / 2 ^ tzF 64 n) = t + 1 := ⟨toF 64 (n / 2 ^ tzF 64 n) - 1, by omega⟩
  rw [ht', Nat.pow_succ] at h3
  rw [ht', Nat.add_sub_cancel]
  have := Nat.two_pow_pos t
  omega
 have h5 : 2 ^ (toF 64 (n / 2 ^ tzF 64 n) - 1) * 2 ^ tzF 64 n ≤ n := Nat.le_trans (Nat.mul_le_mul_right _ h4) (Nat.div_mul_le_self _ _)
 rw [← Nat.pow_add] at h5
 have h6 : 2 ^ (toF 64 (n / 2 ^ tzF 64 n) - 1 + tzF 64 n) < 2 ^ 48 := Nat.lt_of_le_of_lt h5 h
 have h7 := (Nat.pow_lt_pow_iff_right (a := 2) (by omega)).1 h6
 unfold q1e
 omega
theorem zi0 {n : Nat} (h0 : n ≠ 0) (h : n < 2 ^ 64) : n &&& (2 ^ 64 - 1 - (2 ^ (q1e n - tzF 64 n) - 1) * 2 ^ tzF 64 n) = q67 n := by
 obtain ⟨a, b, c⟩ := q5r 64 n h0 h
 have ht := z8j b
 have hlt : tzF 64 n < q1e n := by unfold q1e; omega
 unfold q67
 generalize q1e n = e at *
 generalize tzF 64 n = k at *
 refine Nat.eq_of_testBit_eq fun i => ?_
 have hm : ((2 ^ (e - k) - 1) * 2 ^ k).testBit i = (decide (k ≤ i) && decide (i < e)) := by
  rw [Nat.mul_comm, Nat.testBit_two_pow_mul, Nat.testBit_two_pow_sub_one]
  by_cases h1 : k ≤ i
  ·simp [h1]; omega
  ·simp [h1]
 have hbit : n.testBit i = true → k ≤ i ∧ i < 64 := fun hb => by
  refine ⟨?_, ?_⟩
  ·rcases Nat.lt_or_ge i k with h1 | h1
   ·exfalso
    obtain ⟨q, hq⟩ := Nat.dvd_of_mod_eq_zero a
    rw [hq, Nat.testBit_two_pow_mul] at hb
    simp at hb; omega
   ·exact h1
  ·rcases Nat.lt_or_ge i 64 with h1 | h1
   ·exact h1
   ·rw [Nat.testBit_lt_two_pow (Nat.lt_of_lt_of_le h (Nat.pow_le_pow_right (by omega) h1))] at hb; cases hb
 rw [Nat.testBit_and, Nat.mul_comm (n / 2 ^ e), Nat.testBit_two_pow_mul]
 by_cases hb : n.testBit i = true
 ·obtain ⟨h1, h2⟩ := hbit hb
  have hr : e ≤ i → (n / 2 ^ e).testBit (i - e) = true := fun h3 => by rw [Nat.testBit_div_two_pow, Nat.sub_add_cancel h3]; exact hb
  rcases Nat.lt_or_ge ((2 ^ (e - k) - 1) * 2 ^ k) (2 ^ 64) with h4 | h4
  ·rw [show 2 ^ 64 - 1 - (2 ^ (e - k) - 1) * 2 ^ k = 2 ^ 64 - ((2 ^ (e - k) - 1) * 2 ^ k + 1) by omega, Nat.testBit_two_pow_sub_succ h4, hm, hb]
   by_cases h3 : e ≤ i
   ·simp [h1, h2, h3, hr h3]
   ·simp [h1, h2, h3]; omega
  ·rw [show 2 ^ 64 - 1 - (2 ^ (e - k) - 1) * 2 ^ k = 0 by omega]
   by_cases h3 : e ≤ i
   ·exfalso
    have h5 : (2 ^ (e - k) - 1) * 2 ^ k < 2 ^ e := by
     have : 2 ^ (e - k) * 2 ^ k = 2 ^ e := by rw [← Nat.pow_add, Nat.sub_add_cancel (by omega)]
     have h6 := Nat.two_pow_pos k
     have h7 := Nat.two_pow_pos (e - k)
     have h9 := Nat.two_pow_pos e
     rw [Nat.sub_mul, this]; omega
    have h8 : 2 ^ e ≤ 2 ^ 64 := Nat.pow_le_pow_right (by omega) (by omega)
    omega
   ·simp [h3]
 ·have hb : n.testBit i = false := by simpa using hb
  rw [hb, Bool.false_and]
  by_cases h3 : e ≤ i
  ·have : (n / 2 ^ e).testBit (i - e) = false := by rw [Nat.testBit_div_two_pow, Nat.sub_add_cancel h3]; exact hb
   rw [this]; simp
  ·simp [h3]
theorem qp4 : ∀ (y : Nat) (a b : List Int), q44 y (a ++ b) = q44 y a ++ q44 (y + a.length) b
 | y, [], b => by simp [q44]
 | y, x :: a, b => by
  simp only [List.cons_append, q44, qp4 (y + 1) a b, List.append_assoc, List.length_cons]
  rw [show y + 1 + a.length = y + (a.length + 1) by omega]
theorem qc4 (rows : List Int) (i : Nat) : (q44 0 (rows.take i)).length ≤ (q44 0 rows).length := by
 have : q44 0 rows = q44 0 (rows.take i) ++ q44 (0 + (rows.take i).length) (rows.drop i) := by rw [← qp4, List.take_append_drop]
 rw [this]; simp
theorem z3j {α β : Type} (f : α → List β) (l : List α) (j : Nat) : ((l.take j).flatMap f).length ≤ (l.flatMap f).length := by
 have : l.flatMap f = (l.take j).flatMap f ++ (l.drop j).flatMap f := by rw [← List.flatMap_append, List.take_append_drop]
 rw [this]; simp
end Go.SX
namespace Go.SX
open Go.Proofs
set_option maxHeartbeats 400000000
set_option maxRecDepth 100000
theorem qa9 {n : Nat} (h : n < 2 ^ 64) : (BitVec.ofInt 64 (n : Int)).toNat = n := by simp; omega
theorem y8z : ∀ k : Fin 64, z0t tzL (0 + (q7l .u64 (IntKind.u64.wrap (((2 ^ k.val : Nat) : Int) * 285870213051353865)) 58).toNat) = k.val := by decide +kernel
theorem y4q {n : Nat} (h0 : n ≠ 0) (h : n < 2 ^ 64) : tzN (n : Int) = (tzF 64 n : Nat) := by
 unfold tzN tzI
 rw [if_neg (by omega)]
 have h1 : IntKind.u64.wrap (0 - (n : Int)) = ((2 ^ 64 - n : Nat) : Int) := by
  simp only [IntKind.wrap, IntKind.signed, IntKind.bits]
  simp
  omega
 have h2 : q1l .and .u64 (n : Int) (IntKind.u64.wrap (0 - (n : Int))) = ((2 ^ tzF 64 n : Nat) : Int) := by
  rw [h1]
  unfold q1l
  rw [show IntKind.u64.bits = 64 from rfl]
  have : ((BitVec.ofInt 64 (n : Int) &&& BitVec.ofInt 64 ((2 ^ 64 - n : Nat) : Int)).toNat : Int) = ((2 ^ tzF 64 n : Nat) : Int) := by
   rw [BitVec.toNat_and, qa9 h, qa9 (by omega), y3y h0 h]
  simp only [this]
  refine z1c ?_
  exact Nat.pow_lt_pow_right (by omega) (q5r 64 n h0 h).2.2
 rw [h2]
 exact y8z ⟨tzF 64 n, (q5r 64 n h0 h).2.2⟩
theorem ktz (n : Nat) (h0 : n ≠ 0) (h : n < 2 ^ 64) : q07 Tryz.prog Dc 88 [.p (.int .u64 n)] [] (iS (tzF 64 n : Nat)) [] := by
 have := tz (n : Int)
 rw [y4q h0 h] at this
 exact this
theorem y5e {n k : Nat} (h : k ≤ 64) : q7l .u64 (n : Int) (k : Int) = ((n / 2 ^ k : Nat) : Int) := by
 unfold q7l
 rw [show min (k : Int).toNat IntKind.u64.bits = k by simp [IntKind.bits]; omega, Int.fdiv_eq_ediv_of_nonneg _ (Int.le_of_lt (Int.pow_pos (by omega)))]
 simp
theorem y40 {m : Nat} (h : m < 2 ^ 64) : q1l .xor .u64 (if IntKind.u64.signed then -1 else IntKind.u64.max) (m : Int) = ((2 ^ 64 - 1 - m : Nat) : Int) := by
 unfold q1l
 rw [show IntKind.u64.bits = 64 from rfl, show (if IntKind.u64.signed = true then (-1 : Int) else IntKind.u64.max) = ((2 ^ 64 - 1 : Nat) : Int) from rfl]
 have : ((BitVec.ofInt 64 ((2 ^ 64 - 1 : Nat) : Int) ^^^ BitVec.ofInt 64 (m : Int)).toNat : Int) = ((2 ^ 64 - 1 - m : Nat) : Int) := by
  rw [BitVec.toNat_xor, qa9 h, qa9 (by omega)]
  refine congrArg _ (Nat.eq_of_testBit_eq fun i => ?_)
  rw [Nat.testBit_xor, Nat.testBit_two_pow_sub_one, show 2 ^ 64 - 1 - m = 2 ^ 64 - (m + 1) by omega, Nat.testBit_two_pow_sub_succ h]
  by_cases h1 : i < 64
  ·simp [h1]
  ·rw [Nat.testBit_lt_two_pow (Nat.lt_of_lt_of_le h (Nat.pow_le_pow_right (by omega) (by omega)))]; simp [h1]
 simp only [this]
 exact z1c (by omega)
theorem yf5 (n : Nat) (h0 : n ≠ 0) (h : n < 2 ^ 48) : q07 Tryz.prog Dc 88 [.p (.int .u64 (q1l .xor .u64 (if IntKind.u64.signed then -1 else IntKind.u64.max) (q7l .u64 (n : Int) ((tzF 64 n : Nat) : Int))))] [] (iS ((q1e n - tzF 64 n : Nat) : Int)) [] := by
 obtain ⟨a, b, c⟩ := q5r 64 n h0 (by omega)
 have hle : n / 2 ^ tzF 64 n ≤ n := Nat.div_le_self _ _
 rw [y5e (by omega), y40 (by omega), show q1e n - tzF 64 n = toF 64 (n / 2 ^ tzF 64 n) by unfold q1e; omega, ← zm1 64 (n / 2 ^ tzF 64 n) (by omega)]
 clear a
 generalize n / 2 ^ tzF 64 n = m at *
 exact ktz (2 ^ 64 - 1 - m) (by omega) (by omega)
theorem zq9 {n k : Nat} (h : k ≤ 64) (h2 : n * 2 ^ k < 2 ^ 64) : q4p .u64 (n : Int) (k : Int) = ((n * 2 ^ k : Nat) : Int) := by
 unfold q4p
 rw [show min (k : Int).toNat IntKind.u64.bits = k by simp [IntKind.bits]; omega]
 rw [← z1c h2]; simp
theorem zo3 {n : Nat} (h0 : n ≠ 0) (h : n < 2 ^ 48) : q1l .andNot .u64 (n : Int) (q4p .u64 (IntKind.u64.wrap (q4p .u64 1 ((q1e n - tzF 64 n : Nat) : Int) - 1)) ((tzF 64 n : Nat) : Int)) = ((q67 n : Nat) : Int) := by
 obtain ⟨e1, e2⟩ := qg2 h0 h
 have h64 : n < 2 ^ 64 := by omega
 have hp : 2 ^ (q1e n - tzF 64 n) * 2 ^ tzF 64 n ≤ 2 ^ 48 := by
  rw [← Nat.pow_add, Nat.sub_add_cancel (by omega)]; exact Nat.pow_le_pow_right (by omega) e2
 have hq : 2 ^ (q1e n - tzF 64 n) ≤ 2 ^ 48 := Nat.pow_le_pow_right (by omega) (by omega)
 have q1 := Nat.two_pow_pos (q1e n - tzF 64 n)
 have q2 := Nat.two_pow_pos (tzF 64 n)
 have s1 : q4p .u64 1 ((q1e n - tzF 64 n : Nat) : Int) = ((2 ^ (q1e n - tzF 64 n) : Nat) : Int) := by
  have := zq9 (n := 1) (k := q1e n - tzF 64 n) (by omega) (by omega)
  rw [Nat.one_mul] at this
  exact this
 have s2 : IntKind.u64.wrap (((2 ^ (q1e n - tzF 64 n) : Nat) : Int) - 1) = ((2 ^ (q1e n - tzF 64 n) - 1 : Nat) : Int) := by
  rw [show ((2 ^ (q1e n - tzF 64 n) : Nat) : Int) - 1 = ((2 ^ (q1e n - tzF 64 n) - 1 : Nat) : Int) by omega]
  exact z1c (by omega)
 have hm : (2 ^ (q1e n - tzF 64 n) - 1) * 2 ^ tzF 64 n < 2 ^ 64 := by rw [Nat.sub_mul]; omega
 rw [s1, s2, zq9 (by omega) hm, ← zi0 h0 h64]
 unfold q1l
 rw [show IntKind.u64.bits = 64 from rfl]
 generalize (2 ^ (q1e n - tzF 64 n) - 1) * 2 ^ tzF 64 n = M at *
 have : ((BitVec.ofInt 64 (n : Int) &&& ~~~BitVec.ofInt 64 (M : Int)).toNat : Int) = ((n &&& (2 ^ 64 - 1 - M) : Nat) : Int) := by
  rw [BitVec.toNat_and, qa9 h64, BitVec.toNat_not, qa9 hm]
 simp only [this]
 exact z1c (Nat.lt_of_le_of_lt Nat.and_le_left h64)
end Go.SX
