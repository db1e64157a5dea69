/-
  Walks: Ua1, Pn, Kb, Ua2, Va, Ua3, Tp2, Oq2, Ua4: what single functions of the program compute.
-/
import Derived.Test.YtijedffphgckmaaGreatDoorSxTa2
import Derived.Shelf.Strings.OnBuilder
import Derived.Shelf.Strings.Count
import Derived.Shelf.Strings.Search3
import Derived.Shelf.Strconv.Itoa3
import Derived.Shelf.Strconv.AtoiAll
import Derived.Below
import Derived.Sort.Grow
import Derived.Test.YtijedffphgckmaaGreatDoorSxV6
set_option linter.unusedVariables false
set_option linter.unusedSimpArgs false
namespace Go.SX
open Go.Proofs Go.Shelf
set_option maxRecDepth 100000
set_option maxHeartbeats 4000000
def repAt (l : List (Nat × Nat)) (x : Nat) : Nat := match l with
 | [] => x
 | (a, b) :: l => if a = x then b else repAt l x
def index_laysR : Ren := ⟨repAt [(143, 107), (219, 130), (217, 145), (225, 146), (224, 147), (267, 148), (266, 156), (314, 157)], repAt [(9, 9), (3, 3), (4, 4), (5, 5), (46, 124), (146, 192), (51, 147)], repAt [(1, 2)]⟩
theorem index_lays : Lays.n143 Tryz.prog index_laysR where
 mixed := by kernel_rfl
 f143 := by kernel_rfl
 f217 := by kernel_rfl
 f219 := by kernel_rfl
 f224 := by kernel_rfl
 f225 := by kernel_rfl
 f266 := by kernel_rfl
 f267 := by kernel_rfl
 f314 := by kernel_rfl
 t3 := by kernel_rfl
 a3 := fun w => by kernel_rfl
 z3 := fun w => by kernel_rfl
 v3 := fun w => by kernel_rfl
 t4 := by kernel_rfl
 a4 := fun w => by kernel_rfl
 z4 := fun w => by kernel_rfl
 v4 := fun w => by kernel_rfl
 t5 := by kernel_rfl
 a5 := fun w => by kernel_rfl
 z5 := fun w => by kernel_rfl
 v5 := fun w => by kernel_rfl
 t9 := by kernel_rfl
 a9 := fun w => by kernel_rfl
 z9 := fun w => by kernel_rfl
 v9 := fun w => by kernel_rfl
 t46 := by kernel_rfl
 a46 := fun w => by kernel_rfl
 z46 := fun w => by kernel_rfl
 v46 := fun w => by kernel_rfl
 t51 := by kernel_rfl
 a51 := fun w => by kernel_rfl
 z51 := fun w => by kernel_rfl
 v51 := fun w => by kernel_rfl
 t146 := by kernel_rfl
 a146 := fun w => by kernel_rfl
 z146 := fun w => by kernel_rfl
 v146 := fun w => by kernel_rfl
 g1 := by kernel_rfl
def count_laysR : Ren := ⟨repAt [(138, 106), (195, 127), (218, 129), (143, 107), (219, 130), (217, 145), (225, 146), (224, 147), (267, 148), (266, 156), (314, 157)], repAt [(9, 9), (3, 3), (4, 4), (5, 5), (0, 0), (46, 124), (146, 192), (51, 147)], repAt [(1, 2)]⟩
theorem count_lays : Lays.n138 Tryz.prog count_laysR where
 mixed := by kernel_rfl
 f138 := by kernel_rfl
 f143 := by kernel_rfl
 f195 := by kernel_rfl
 f217 := by kernel_rfl
 f218 := by kernel_rfl
 f219 := by kernel_rfl
 f224 := by kernel_rfl
 f225 := by kernel_rfl
 f266 := by kernel_rfl
 f267 := by kernel_rfl
 f314 := by kernel_rfl
 t0 := by kernel_rfl
 a0 := fun w => by kernel_rfl
 z0 := fun w => by kernel_rfl
 v0 := fun w => by kernel_rfl
 t3 := by kernel_rfl
 a3 := fun w => by kernel_rfl
 z3 := fun w => by kernel_rfl
 v3 := fun w => by kernel_rfl
 t4 := by kernel_rfl
 a4 := fun w => by kernel_rfl
 z4 := fun w => by kernel_rfl
 v4 := fun w => by kernel_rfl
 t5 := by kernel_rfl
 a5 := fun w => by kernel_rfl
 z5 := fun w => by kernel_rfl
 v5 := fun w => by kernel_rfl
 t9 := by kernel_rfl
 a9 := fun w => by kernel_rfl
 z9 := fun w => by kernel_rfl
 v9 := fun w => by kernel_rfl
 t46 := by kernel_rfl
 a46 := fun w => by kernel_rfl
 z46 := fun w => by kernel_rfl
 v46 := fun w => by kernel_rfl
 t51 := by kernel_rfl
 a51 := fun w => by kernel_rfl
 z51 := fun w => by kernel_rfl
 v51 := fun w => by kernel_rfl
 t146 := by kernel_rfl
 a146 := fun w => by kernel_rfl
 z146 := fun w => by kernel_rfl
 v146 := fun w => by kernel_rfl
 g1 := by kernel_rfl
def join_laysR : Ren := ⟨repAt [(156, 40), (165, 63), (166, 64), (169, 65), (240, 89), (241, 90), (276, 111), (277, 112)], repAt [(31, 38), (9, 9), (3, 3), (4, 4), (0, 0), (20, 20), (72, 104), (76, 108), (70, 102), (37, 58), (75, 107), (127, 126), (164, 150), (5, 5), (80, 110)], repAt []⟩
theorem join_lays : Lays.n156 Tryz.prog join_laysR where
 mixed := by kernel_rfl
 f156 := by kernel_rfl
 f165 := by kernel_rfl
 f166 := by kernel_rfl
 f169 := by kernel_rfl
 f240 := by kernel_rfl
 f241 := by kernel_rfl
 f276 := by kernel_rfl
 f277 := by kernel_rfl
 t0 := by kernel_rfl
 a0 := fun w => by kernel_rfl
 z0 := fun w => by kernel_rfl
 v0 := fun w => by kernel_rfl
 t3 := by kernel_rfl
 a3 := fun w => by kernel_rfl
 z3 := fun w => by kernel_rfl
 v3 := fun w => by kernel_rfl
 t4 := by kernel_rfl
 a4 := fun w => by kernel_rfl
 z4 := fun w => by kernel_rfl
 v4 := fun w => by kernel_rfl
 t9 := by kernel_rfl
 a9 := fun w => by kernel_rfl
 z9 := fun w => by kernel_rfl
 v9 := fun w => by kernel_rfl
 t20 := by kernel_rfl
 a20 := fun w => by kernel_rfl
 z20 := fun w => by kernel_rfl
 v20 := fun w => by kernel_rfl
 t31 := by kernel_rfl
 a31 := fun w => by kernel_rfl
 z31 := fun w => by kernel_rfl
 v31 := fun w => by kernel_rfl
 t37 := by kernel_rfl
 a37 := fun w => by kernel_rfl
 z37 := fun w => by kernel_rfl
 v37 := fun w => by kernel_rfl
 t70 := by kernel_rfl
 a70 := fun w => by kernel_rfl
 z70 := fun w => by kernel_rfl
 v70 := fun w => by kernel_rfl
 t72 := by kernel_rfl
 a72 := fun w => by kernel_rfl
 z72 := fun w => by kernel_rfl
 v72 := fun w => by kernel_rfl
 t75 := by kernel_rfl
 a75 := fun w => by kernel_rfl
 z75 := fun w => by kernel_rfl
 v75 := fun w => by kernel_rfl
 t76 := by kernel_rfl
 a76 := fun w => by kernel_rfl
 z76 := fun w => by kernel_rfl
 v76 := fun w => by kernel_rfl
 t127 := by kernel_rfl
 a127 := fun w => by kernel_rfl
 z127 := fun w => by kernel_rfl
 v127 := fun w => by kernel_rfl
 t164 := by kernel_rfl
 a164 := fun w => by kernel_rfl
 z164 := fun w => by kernel_rfl
 v164 := fun w => by kernel_rfl
def itoa_laysR : Ren := ⟨repAt [(171, 61), (243, 86), (246, 108), (283, 131), (284, 132), (285, 133), (286, 134), (129, 150), (317, 149), (318, 151), (319, 152), (320, 88), (337, 109), (338, 110)], repAt [(3, 3), (9, 9), (2, 2), (4, 4), (171, 165), (0, 0), (53, 149), (37, 58), (5, 5), (173, 167), (212, 180), (51, 147), (20, 20), (213, 181), (46, 124), (232, 169), (233, 170)], repAt [(17, 3), (18, 0), (19, 1)]⟩
theorem itoa_lays : LaysM.n171 Tryz.prog itoa_laysR where
 mixed := by kernel_rfl
 f129 := by kernel_rfl
 f171 := by kernel_rfl
 f243 := by kernel_rfl
 f246 := by kernel_rfl
 f283 := by kernel_rfl
 f284 := by kernel_rfl
 f285 := by kernel_rfl
 f286 := by kernel_rfl
 f317 := by kernel_rfl
 f318 := by kernel_rfl
 f319 := by kernel_rfl
 f320 := by kernel_rfl
 f337 := by kernel_rfl
 f338 := by kernel_rfl
 t0 := by kernel_rfl
 a0 := fun w => by kernel_rfl
 z0 := fun w => by kernel_rfl
 v0 := fun w => by kernel_rfl
 t2 := by kernel_rfl
 a2 := fun w => by kernel_rfl
 z2 := fun w => by kernel_rfl
 v2 := fun w => by kernel_rfl
 t3 := by kernel_rfl
 a3 := fun w => by kernel_rfl
 z3 := fun w => by kernel_rfl
 v3 := fun w => by kernel_rfl
 t4 := by kernel_rfl
 a4 := fun w => by kernel_rfl
 z4 := fun w => by kernel_rfl
 v4 := fun w => by kernel_rfl
 t5 := by kernel_rfl
 a5 := fun w => by kernel_rfl
 z5 := fun w => by kernel_rfl
 v5 := fun w => by kernel_rfl
 t9 := by kernel_rfl
 a9 := fun w => by kernel_rfl
 z9 := fun w => by kernel_rfl
 v9 := fun w => by kernel_rfl
 t20 := by kernel_rfl
 a20 := fun w => by kernel_rfl
 z20 := fun w => by kernel_rfl
 v20 := fun w => by kernel_rfl
 t37 := by kernel_rfl
 a37 := fun w => by kernel_rfl
 z37 := fun w => by kernel_rfl
 v37 := fun w => by kernel_rfl
 t46 := by kernel_rfl
 a46 := fun w => by kernel_rfl
 z46 := fun w => by kernel_rfl
 v46 := fun w => by kernel_rfl
 t51 := by kernel_rfl
 a51 := fun w => by kernel_rfl
 z51 := fun w => by kernel_rfl
 v51 := fun w => by kernel_rfl
 t53 := by kernel_rfl
 a53 := fun w => by kernel_rfl
 z53 := fun w => by kernel_rfl
 v53 := fun w => by kernel_rfl
 t171 := by kernel_rfl
 a171 := fun w => by kernel_rfl
 z171 := fun w => by kernel_rfl
 v171 := fun w => by kernel_rfl
 t173 := by kernel_rfl
 a173 := fun w => by kernel_rfl
 z173 := fun w => by kernel_rfl
 v173 := fun w => by kernel_rfl
 t212 := by kernel_rfl
 a212 := fun w => by kernel_rfl
 z212 := fun w => by kernel_rfl
 v212 := fun w => by kernel_rfl
 t213 := by kernel_rfl
 a213 := fun w => by kernel_rfl
 z213 := fun w => by kernel_rfl
 t232 := by kernel_rfl
 a232 := fun w => by kernel_rfl
 z232 := fun w => by kernel_rfl
 v232 := fun w => by kernel_rfl
 t233 := by kernel_rfl
 a233 := fun w => by kernel_rfl
 z233 := fun w => by kernel_rfl
 v233 := fun w => by kernel_rfl
 g17 := by kernel_rfl
 g18 := by kernel_rfl
 g19 := by kernel_rfl
 i0 := by kernel_rfl
 i2 := by kernel_rfl
 i3 := by kernel_rfl
 i4 := by kernel_rfl
 i5 := by kernel_rfl
 i9 := by kernel_rfl
 i20 := by kernel_rfl
 i37 := by kernel_rfl
 i46 := by kernel_rfl
 i51 := by kernel_rfl
 i53 := by kernel_rfl
 i171 := by kernel_rfl
 i173 := by kernel_rfl
 i212 := by kernel_rfl
 i232 := by kernel_rfl
 i233 := by kernel_rfl
 m17 := by kernel_rfl
 m18 := by kernel_rfl
 m19 := by kernel_rfl
def atoi_laysR : Ren := ⟨repAt [(172, 103), (244, 119), (245, 120), (247, 137), (279, 138), (280, 139), (281, 140), (282, 141), (287, 153), (316, 154), (171, 61), (205, 155), (321, 158), (322, 159), (243, 86), (246, 108), (283, 131), (284, 132), (285, 133), (286, 134), (129, 150), (317, 149), (318, 151), (319, 152), (320, 88), (337, 109), (338, 110)], repAt [(9, 9), (3, 3), (75, 107), (76, 108), (4, 4), (5, 5), (167, 173), (37, 58), (0, 0), (85, 174), (2, 2), (168, 176), (53, 149), (175, 182), (46, 124), (210, 186), (127, 126), (145, 197), (143, 195), (21, 21), (171, 165), (173, 167), (212, 180), (51, 147), (20, 20), (213, 181), (232, 169), (233, 170), (80, 110)], repAt [(15, 4), (16, 5), (17, 3), (18, 0), (19, 1)]⟩
theorem atoi_lays : LaysC.n172 Tryz.prog atoi_laysR where
 mixed := by kernel_rfl
 f129 := by kernel_rfl
 f171 := by kernel_rfl
 f172 := by kernel_rfl
 f205 := by kernel_rfl
 f243 := by kernel_rfl
 f244 := by kernel_rfl
 f245 := by kernel_rfl
 f246 := by kernel_rfl
 f247 := by kernel_rfl
 f279 := by kernel_rfl
 f280 := by kernel_rfl
 f281 := by kernel_rfl
 f282 := by kernel_rfl
 f283 := by kernel_rfl
 f284 := by kernel_rfl
 f285 := by kernel_rfl
 f286 := by kernel_rfl
 f287 := by kernel_rfl
 f316 := by kernel_rfl
 f317 := by kernel_rfl
 f318 := by kernel_rfl
 f319 := by kernel_rfl
 f320 := by kernel_rfl
 f321 := by kernel_rfl
 f322 := by kernel_rfl
 f337 := by kernel_rfl
 f338 := by kernel_rfl
 t0 := by kernel_rfl
 a0 := fun w => by kernel_rfl
 z0 := fun w => by kernel_rfl
 v0 := fun w => by kernel_rfl
 t2 := by kernel_rfl
 a2 := fun w => by kernel_rfl
 z2 := fun w => by kernel_rfl
 v2 := fun w => by kernel_rfl
 t3 := by kernel_rfl
 a3 := fun w => by kernel_rfl
 z3 := fun w => by kernel_rfl
 v3 := fun w => by kernel_rfl
 t4 := by kernel_rfl
 a4 := fun w => by kernel_rfl
 z4 := fun w => by kernel_rfl
 v4 := fun w => by kernel_rfl
 t5 := by kernel_rfl
 a5 := fun w => by kernel_rfl
 z5 := fun w => by kernel_rfl
 v5 := fun w => by kernel_rfl
 t9 := by kernel_rfl
 a9 := fun w => by kernel_rfl
 z9 := fun w => by kernel_rfl
 v9 := fun w => by kernel_rfl
 t20 := by kernel_rfl
 a20 := fun w => by kernel_rfl
 z20 := fun w => by kernel_rfl
 v20 := fun w => by kernel_rfl
 t21 := by kernel_rfl
 a21 := fun w => by kernel_rfl
 z21 := fun w => by kernel_rfl
 v21 := fun w => by kernel_rfl
 t37 := by kernel_rfl
 a37 := fun w => by kernel_rfl
 z37 := fun w => by kernel_rfl
 v37 := fun w => by kernel_rfl
 t46 := by kernel_rfl
 a46 := fun w => by kernel_rfl
 z46 := fun w => by kernel_rfl
 v46 := fun w => by kernel_rfl
 t51 := by kernel_rfl
 a51 := fun w => by kernel_rfl
 z51 := fun w => by kernel_rfl
 v51 := fun w => by kernel_rfl
 t53 := by kernel_rfl
 a53 := fun w => by kernel_rfl
 z53 := fun w => by kernel_rfl
 v53 := fun w => by kernel_rfl
 t75 := by kernel_rfl
 a75 := fun w => by kernel_rfl
 z75 := fun w => by kernel_rfl
 v75 := fun w => by kernel_rfl
 t76 := by kernel_rfl
 a76 := fun w => by kernel_rfl
 z76 := fun w => by kernel_rfl
 v76 := fun w => by kernel_rfl
 t85 := by kernel_rfl
 a85 := fun w => by kernel_rfl
 z85 := fun w => by kernel_rfl
 v85 := fun w => by kernel_rfl
 t127 := by kernel_rfl
 a127 := fun w => by kernel_rfl
 z127 := fun w => by kernel_rfl
 v127 := fun w => by kernel_rfl
 t143 := by kernel_rfl
 a143 := fun w => by kernel_rfl
 z143 := fun w => by kernel_rfl
 v143 := fun w => by kernel_rfl
 t145 := by kernel_rfl
 a145 := fun w => by kernel_rfl
 z145 := fun w => by kernel_rfl
 v145 := fun w => by kernel_rfl
 t167 := by kernel_rfl
 a167 := fun w => by kernel_rfl
 z167 := fun w => by kernel_rfl
 v167 := fun w => by kernel_rfl
 t168 := by kernel_rfl
 a168 := fun w => by kernel_rfl
 z168 := fun w => by kernel_rfl
 v168 := fun w => by kernel_rfl
 t171 := by kernel_rfl
 a171 := fun w => by kernel_rfl
 z171 := fun w => by kernel_rfl
 v171 := fun w => by kernel_rfl
 t173 := by kernel_rfl
 a173 := fun w => by kernel_rfl
 z173 := fun w => by kernel_rfl
 v173 := fun w => by kernel_rfl
 t175 := by kernel_rfl
 a175 := fun w => by kernel_rfl
 z175 := fun w => by kernel_rfl
 v175 := fun w => by kernel_rfl
 t210 := by kernel_rfl
 a210 := fun w => by kernel_rfl
 z210 := fun w => by kernel_rfl
 v210 := fun w => by kernel_rfl
 t212 := by kernel_rfl
 a212 := fun w => by kernel_rfl
 z212 := fun w => by kernel_rfl
 v212 := fun w => by kernel_rfl
 t213 := by kernel_rfl
 a213 := fun w => by kernel_rfl
 z213 := fun w => by kernel_rfl
 t232 := by kernel_rfl
 a232 := fun w => by kernel_rfl
 z232 := fun w => by kernel_rfl
 v232 := fun w => by kernel_rfl
 t233 := by kernel_rfl
 a233 := fun w => by kernel_rfl
 z233 := fun w => by kernel_rfl
 v233 := fun w => by kernel_rfl
 g15 := by kernel_rfl
 g16 := by kernel_rfl
 g17 := by kernel_rfl
 g18 := by kernel_rfl
 g19 := by kernel_rfl
 t80 := by kernel_rfl
 a80 := fun w => by kernel_rfl
 z80 := fun w => by kernel_rfl
 v80 := fun w => by kernel_rfl
 i0 := by kernel_rfl
 i2 := by kernel_rfl
 i3 := by kernel_rfl
 i4 := by kernel_rfl
 i5 := by kernel_rfl
 i9 := by kernel_rfl
 i20 := by kernel_rfl
 i21 := by kernel_rfl
 i37 := by kernel_rfl
 i46 := by kernel_rfl
 i51 := by kernel_rfl
 i53 := by kernel_rfl
 i75 := by kernel_rfl
 i76 := by kernel_rfl
 i80 := by kernel_rfl
 i85 := by kernel_rfl
 i127 := by kernel_rfl
 i143 := by kernel_rfl
 i145 := by kernel_rfl
 i167 := by kernel_rfl
 i168 := by kernel_rfl
 i171 := by kernel_rfl
 i173 := by kernel_rfl
 i175 := by kernel_rfl
 i210 := by kernel_rfl
 i212 := by kernel_rfl
 i232 := by kernel_rfl
 i233 := by kernel_rfl
 m15 := by kernel_rfl
 m16 := by kernel_rfl
 m17 := by kernel_rfl
 m18 := by kernel_rfl
 m19 := by kernel_rfl
 c0 := by kernel_rfl
 c2 := by kernel_rfl
 c3 := by kernel_rfl
 c4 := by kernel_rfl
 c5 := by kernel_rfl
 c9 := by kernel_rfl
 c20 := by kernel_rfl
 c21 := by kernel_rfl
 c37 := by kernel_rfl
 c46 := by kernel_rfl
 c51 := by kernel_rfl
 c53 := by kernel_rfl
 c75 := by kernel_rfl
 c76 := by kernel_rfl
 c80 := by kernel_rfl
 c85 := by kernel_rfl
 c127 := by kernel_rfl
 c143 := by kernel_rfl
 c145 := by kernel_rfl
 c167 := by kernel_rfl
 c168 := by kernel_rfl
 c171 := by kernel_rfl
 c173 := by kernel_rfl
 c175 := by kernel_rfl
 c210 := by kernel_rfl
 c212 := by kernel_rfl
 c213 := by kernel_rfl
 c232 := by kernel_rfl
 c233 := by kernel_rfl
theorem join_extra : Builder.Extra Tryz.prog join_laysR where
 sizeBuilder := by kernel_rfl
 liesBuilder := by kernel_rfl
 t5 := by kernel_rfl
 a5 := fun w => by kernel_rfl
 z5 := fun w => by kernel_rfl
 v5 := fun w => by kernel_rfl
 infoByte := by kernel_rfl
 cellsByte := by kernel_rfl
 sizeByte := by kernel_rfl
 neB5 := by decide
end Go.SX

/-
 SX, part Pn: calls that end with a panic.
-/
namespace Go.SX
open Go.RowKit
variable {C : Cod}
section
variable {P : Program} {D : Codec C} {tab : Tab C} {B : Base} {E : Env} {σ : Nat → SV C} {H : Nat → HS C} {df : List Deferred} {a : Act} {w : World} {o : Oper} {r : Option Nat}
variable {X : Ctx C} {R : Kont C} {f : FuncId} {args : List (SV C)} {dst : Option Nat} {all rest : List Oper} {k : List (It C)} {T : List (SV C)} {Hp : List (HS C)} {ch : List PanicEntry}
/-- the contract of a call that ends with a panic -/
structure Dies (P : Program) (D : Codec C) (f : FuncId) (args : List (SV C)) (H0 : List (HS C)) (ch : List PanicEntry) (H1 : List (HS C)) : Prop where
 enter : ∀ args w, (callFunc f args).run P w = .ok (.enter f args) w
 calls : ∀ w E (hm : ∀ c, H0.length ≤ c → E.β c = .fresh) vs, Sat D w E (getC H0) → DenA D w E args vs →
  CallsIn (Fc none) 0 P f vs.toArray w fun e w' => ∃ E', e = .panicked ch ∧ Sat D w' E' (getC H1) ∧ Fr ⟨w, E, fun b => ∃ c, E.β c = .loc b, H0.length, hm, [], false⟩ E' w'
/-- how a walk that panics ends -/
def DiePost (ch : List PanicEntry) (m0 : Nat) (H1 : List (HS C)) : Post C := fun e T Hp => e = .panic ch ∧ ∃ θ, ViewOK Hp θ H1 m0
theorem die_end {m0 : Nat} {H1 : List (HS C)} (θ : List (Option Nat)) (hv : ViewHs Hp θ θ H1) (hid : idO m0 0 θ = true := by rfl) (hnd : ndO θ = true := by rfl) : DiePost ch m0 H1 (.panic ch) T Hp := ⟨rfl, θ, hv, hid, hnd⟩
theorem leaves_relP {F : Fence} {n : Nat} {fn : Func} {R : Ending → World → Prop} (h : Rel D B E σ H df a w) (hK : ∀ w' E', Rel D B E' σ H [] { a with defers := [] } w' → R (.panicked ch) w') (hds : B.ds = [] := by rfl) : LeavesInM F n P fn a.tmps R a.defers (.panicking ch) w := by
 refine leaves_relD (by simp) h fun w' E' hR => ?_
 rw [hds] at hR ⊢
 exact hK w' E' hR
theorem dies_of_gx (A : Aux C D) (hT : TabOK P D tab) {fn : Func} {c : Code} (hf : P.funcs[f]? = some fn) (hb : fn.body = some c) (henter : ∀ args w, (callFunc f args).run P w = .ok (.enter f args) w)
  {H0 : List (HS C)} {H1 : List (HS C)} (n : Nat)
  (h : forceV (args ++ anys (fn.ntmps - args.length)) fun T0 => forceL H0 fun Hp0 => gx P A tab ⟨none, [], H0.length, false⟩ (DiePost ch H0.length H1) n [.code c] T0 Hp0) : Dies P D f args H0 ch H1 := by
 rw [forceV_eq, forceL_eq] at h
 refine ⟨henter, fun w E hm vs hs hd => ?_⟩
 refine callsIn_of_wp_marks hf hb trivial ?_ rfl
 have hR := enter_rel (n := fn.ntmps) (m := H0.length) (hm := hm) hs hd
 have hX : CtxOK D (⟨none, [], H0.length, false⟩ : Ctx C) (Base.here w E H0.length hm) none := ⟨rfl, fun c ri hc => by simp [lkR] at hc, trivial, rfl⟩
 have := gx_sound (r := none) (Q := bodyPostM (Fc none) 0 P fn fun e w' => ∃ E', e = .panicked ch ∧ Sat D w' E' (getC H1) ∧ Fr (Base.here w E H0.length hm) E' w') A hT hX
  (fun e a w' T Hp hΦ hRL => ?_) n _ _ _ h _ _ hR
 ·exact this
 ·obtain ⟨rfl, θ, h3⟩ := hΦ
  obtain ⟨df, E1, hR1, _⟩ := hRL
  refine leaves_relP hR1 fun w2 E2 hR2 => ?_
  obtain ⟨g1, g2, g3⟩ := view_env hR2.sat hR2.fr h3
  exact ⟨_, rfl, g2, g3⟩
/-- a panic's operation -/
theorem panic_in {op : Op} {vals : List (SV C)} {hs : List (Nat × HS C)} {Y : Prop} (x : Operand) (t : TypeId) (u : Value) (h1 : op = .panic x) (h2 : Only D (evT T x) (.iface t u)) (h3 : R (.die [{ v := .iface t u, recovered := false }] :: k) T Hp) : StuckX op vals hs (Y ∨ DieY D X.m0 R op k T Hp ∨ OnceY P D R op dst all rest k T Hp) :=
 ⟨.inr (.inl ⟨x, t, u, h1, h2, h3⟩)⟩
/-- an operation that only hands back a value -/
theorem once_in {op : Op} {vals : List (SV C)} {hs : List (Nat × HS C)} {Y : Prop} {v : SV C} (hnd : ∀ c, op ≠ .defer c) (h1 : ∀ (o : Oper) (E : Env) (a : Act) (w : World), o.op = op → (∀ x, Den D w E (evT T x) (a.eval x)) → ∃ u, (execOp a.eval o).run P w = .ok (.value u) w ∧ Den D w E v u)
  (h3 : setOK T dst v fun T' => R (.ops all rest :: k) T' Hp) : StuckX op vals hs (Y ∨ DieY D X.m0 R op k T Hp ∨ OnceY P D R op dst all rest k T Hp) :=
 ⟨.inr (.inr ⟨v, [], hnd, fun o B E df a w ho hR => by
  obtain ⟨u, h4, h5⟩ := h1 o E a w ho fun x => by rw [evT_eq]; exact ev_den hR x
  exact runOK_of hR h4 h5, h3⟩)⟩
/-- an empty struct -/
theorem unit_in {vals : List (SV C)} {hs : List (Nat × HS C)} {Y : Prop} {t : TypeId} (h1 : ∀ (e : Operand → Value) (o : Oper) w, o.op = .build t #[] → (execOp e o).run P w = .ok (.value (.agg #[])) w)
  (h3 : setOK T dst (.agg []) fun T' => R (.ops all rest :: k) T' Hp) : StuckX (.build t #[]) vals hs (Y ∨ DieY D X.m0 R (.build t #[]) k T Hp ∨ OnceY P D R (.build t #[]) dst all rest k T Hp) :=
 once_in (fun c h => by cases h) (fun o E a w ho _ => ⟨.agg #[], h1 a.eval o w ho, by simp only [Den, DenC]; exact ⟨_, rfl, rfl⟩⟩) h3
theorem den_unit {w : World} {E : Env} {u : Value} (h : Den D w E (.agg []) u) : u = .agg #[] := by
 simp only [Den, DenC] at h
 obtain ⟨cs, e1, e2⟩ := h
 have : cs = #[] := by simpa using e2
 rw [e1, this]
theorem uface_in {vals : List (SV C)} {hs : List (Nat × HS C)} {Y : Prop} {t : TypeId} {x : Operand} (h1 : ∀ (e : Operand → Value) (o : Oper) w, o.op = .makeInterface t x → (execOp e o).run P w = .ok (.value (.iface t (e x))) w)
    (h2 : evT T x = .agg []) (h3 : setOK T dst (.p (.lit (.iface t (.agg #[])))) fun T' => R (.ops all rest :: k) T' Hp) : StuckX (.makeInterface t x) vals hs (Y ∨ DieY D X.m0 R (.makeInterface t x) k T Hp ∨ OnceY P D R (.makeInterface t x) dst all rest k T Hp) :=
  once_in (fun c h => by cases h) (fun o E a w ho hd => ⟨.iface t (a.eval x), h1 a.eval o w ho, by
    have := hd x
    rw [h2] at this
    rw [den_unit this]
    simp only [Den]
    exact .lit _ rfl⟩) h3
/-- an interface's value that is an empty struct, asked for -/
theorem uassert_in {vals : List (SV C)} {hs : List (Nat × HS C)} {Y : Prop} {s t : TypeId} {x : Operand} (h1 : ∀ (e : Operand → Value) (o : Oper) w, o.op = .typeAssert x s t true → e x = .iface t (.agg #[]) → (execOp e o).run P w = .ok (.value (.tuple #[.agg #[], .bool true])) w)
    (h2 : evT T x = .p (.lit (.iface t (.agg #[])))) (h3 : setOK T dst (.tuple [.agg [], .p (.bool true)]) fun T' => R (.ops all rest :: k) T' Hp) : StuckX (.typeAssert x s t true) vals hs (Y ∨ DieY D X.m0 R (.typeAssert x s t true) k T Hp ∨ OnceY P D R (.typeAssert x s t true) dst all rest k T Hp) :=
  once_in (fun c h => by cases h) (fun o E a w ho hd => ⟨_, h1 a.eval o w ho (by have := hd x; rw [h2] at this; exact den_lit this), by
    simp only [Den, DenA]
    exact ⟨_, rfl, _, _, rfl, ⟨#[], rfl, rfl⟩, _, _, rfl, mk_bool true, rfl⟩⟩) h3
/-- a variable of an empty struct -/
theorem ualloc_in {vals : List (SV C)} {hs : List (Nat × HS C)} {Y : Prop} {t : TypeId} (h1 : ∀ (e : Operand → Value) (o : Oper) w, o.op = .alloc t → (execOp e o).run P w = .ok (.value (.pointer (some ⟨w.heap.size, 0, none⟩))) (w.alloc (.cells #[] t)))
  (h3 : hlenK Hp 0 fun m => setOK T dst (.ptr m 0) fun T' => setCsK Hp [(m, .vart none [])] fun Hp' => R (.ops all rest :: k) T' Hp') : StuckX (.alloc t) vals hs (Y ∨ DieY D X.m0 R (.alloc t) k T Hp ∨ OnceY P D R (.alloc t) dst all rest k T Hp) := by
 rw [hlenK_eq, Nat.add_zero] at h3
 exact ⟨.inr (.inr ⟨_, _, fun c h => (by cases h), fun o B E df a w ho hR => new_var hR (getC_len Hp) t none (fun _ h => (by cases h)) (by simp [DenC]) (h1 a.eval o w ho), h3⟩)⟩
theorem ustore_in {vals : List (SV C)} {hs : List (Nat × HS C)} {Y : Prop} {t : TypeId} {x y : Operand} (h1 : ∀ (e : Operand → Value) (o : Oper) w ad, o.op = .store t x y → e x = .pointer (some ad) → e y = .agg #[] → (execOp e o).run P w = .ok .skip w)
    {m : Nat} (h2 : evT T x = .ptr m 0) (h4 : getC Hp m = .vart none []) (h5 : evT T y = .agg []) (h3 : setOK T dst .any fun T' => R (.ops all rest :: k) T' Hp) : StuckX (.store t x y) vals hs (Y ∨ DieY D X.m0 R (.store t x y) k T Hp ∨ OnceY P D R (.store t x y) dst all rest k T Hp) :=
  ⟨.inr (.inr ⟨.any, [], fun c h => (by cases h), fun o B E df a w ho hR => by
    have hx := ev_den hR x
    rw [← evT_eq, h2] at hx
    have hy := ev_den hR y
    rw [← evT_eq, h5] at hy
    obtain ⟨b, cs, T', hb, _⟩ := var_at hR.sat h4
    have e := ptr_den hx hb
    exact ⟨undef, w, E, .inr ⟨h1 a.eval o w _ ho e (den_unit hy), rfl⟩, hR, by simp only [Den]⟩, h3⟩)⟩
theorem only_lit {x : SV C} {v : Value} (h : x = .p (.lit v)) : Only D x v := fun w E u hd => by subst h; exact den_lit hd
/-- a call that dies, of a contract about some chunks -/
theorem dieh {args0 : List (SV C)} {H0 H0' H1 : List (HS C)} (ρ : List (Option Nat)) (hM : Dies P D f args0 H0 ch H1) (hargs : renL ρ args0 = some args) (hH0 : renHs ρ H0 = some H0') (hat : heapAt (getC Hp) ρ H0')
  (h : callK Hp ρ H0.length H1 (.tuple []) fun _ _ ws => setCsK Hp ws fun Hp' => R (.die ch :: k) T Hp') : CallX P D X R f args dst all rest k T Hp := by
 unfold callK at h
 rw [hlenK_eq, Nat.add_zero, forceIds_eq] at h
 unfold condT at h
 split at h
 ·rename_i hc
  simp only [Bool.and_eq_true] at hc
  unfold someK at h
  split at h
  ·rename_i H1' hH1
   split at h
   ·dsimp only at h
    rw [setCsK_eq] at h
    refine CallX.dies ⟨hM.enter, fun B σ df a w E _ hR vs hd => ?_⟩ h
    refine (call_core (Ω := fun e _ _ => e = .panicked ch) (fun w E hm vs hs hd => (hM.calls w E hm vs hs hd).mono fun e w' ⟨E', h1, h2, h3⟩ => ⟨E', h1, h2, h3⟩) ρ hargs hH0 hat _ rfl (fun k _ => getC_ge Hp _ (by rw [← hlen_eq]; omega)) hc.1 (Nat.le_of_ble_eq_true hc.2) hH1 B σ df a w E hR vs hd).mono ?_
    rintro e w' ⟨e1, E1, h1, _, _, h2⟩
    exact ⟨E1, h1, by rw [getC_setCs]; exact h2⟩
   ·exact h.elim
  ·exact h.elim
 ·exact h.elim
end
end Go.SX

/-
 SX, part Kb: contracts of the kit's shelf (they leave all that was there) as contracts here.
-/
namespace Go.SX
open Go.RowKit
variable {C : Cod} {P : Program} {D : Codec C} {w w' : World} {E : Env}
theorem later_below {H : Nat → HS C} (hs : Sat D w E H) (hb : Below w.heap.size w w') : Later w E w' E :=
 ⟨fun b h => ⟨h, hb.block b (hs.F b h)⟩, fun _ => .inl rfl, fun _ _ _ _ cs T hcs => ⟨cs, T, Row.of (hb.block _ hcs.lt) hcs, rfl⟩⟩
theorem sat_below {H : Nat → HS C} (hs : Sat D w E H) (hb : Below w.heap.size w w') : Sat D w' E H :=
 ⟨fun c => HS.ok_mono (later_below hs hb) (hs.ok c) fun b e => hb.block b (hs.own c b e).1, fun c b e => ⟨Nat.lt_of_lt_of_le (hs.own c b e).1 hb.size, (hs.own c b e).2⟩, hs.inj, fun b h => Nat.lt_of_lt_of_le (hs.F b h) hb.size, hs.glob.mono (later_below hs hb).F⟩
theorem meets_below {f : FuncId} {args : List (SV C)} {H0 : List (HS C)} {ret : SV C} (henter : ∀ args w, (callFunc f args).run P w = .ok (.enter f args) w)
  (h : ∀ w E vs, Sat D w E (getC H0) → DenA D w E args vs → Calls P f vs.toArray w fun e w' => ∃ v, e = .returned v ∧ Below w.heap.size w w' ∧ Den D w' E ret v) : Meets P D f args H0 ret H0 := by
 refine ⟨henter, fun w E hm vs hs hd => ?_⟩
 have h2 : CallsIn (Fc none) 0 P f vs.toArray w _ := callsIn_wide.2 (h w E vs hs hd)
 refine h2.mono ?_
 rintro e w' ⟨v, rfl, hb, hv⟩
 exact ⟨v, E, rfl, hv, sat_below hs hb, ⟨hb.os, hb.tape, hb.output, hb.size, fun b hlt _ => hb.block b hlt, later_below hs hb, fun b hF => .inl hF, fun c b e => .inl ⟨c, e⟩⟩⟩
end Go.SX

namespace Go.SX
open Go.Proofs Go.Shelf Go.RowKit Go.Sort
set_option maxHeartbeats 4000000
set_option maxRecDepth 100000
@[reducible] def wS (l : Wd) : SV Cd := .p (.str l)
@[reducible] def wsS (l : List Wd) : SV Cd := .p (.dsl U.str l)
/-! the kit's contracts at this seat -/
theorem kcount (l : Wd) (c : UInt8) : Meets Tryz.prog Dc 106 [wS l, wS [c]] [] (iS (Go.Lib.countByte l c)) [] := by
 refine meets_below Tryz.call106 fun w E vs hs hd => ?_
 simp only [DenA, Den] at hd
 obtain ⟨v, v2, rfl, hv, v', v3, rfl, hv', rfl⟩ := hd
 cases hv
 cases hv'
 refine (Any.strings_Count_one count_lays ⟨⟨l⟩⟩ c w).mono ?_
 rintro e w' ⟨rfl, rfl⟩
 exact ⟨_, rfl, Below.refl _ _, .int _ _⟩
theorem kindex (l : Wd) (c : UInt8) : Meets Tryz.prog Dc 107 [wS l, wS [c]] [] (iS (Go.Lib.indexByte l c)) [] := by
 refine meets_below Tryz.call107 fun w E vs hs hd => ?_
 simp only [DenA, Den] at hd
 obtain ⟨v, v2, rfl, hv, v', v3, rfl, hv', rfl⟩ := hd
 cases hv
 cases hv'
 refine (Any.strings_Index_one index_lays ⟨⟨l⟩⟩ c w).mono ?_
 rintro e w' ⟨rfl, rfl⟩
 exact ⟨_, rfl, Below.refl _ _, .int _ _⟩
theorem var_glob {w : World} {E : Env} (hg : GlobOK Cd w E) {g : Nat} {name : String} (hn : Tryz.prog.globalNamed name = some g) (h : U.glob g ≠ []) : w.var? Tryz.prog name = some (U.glob g).toArray := by
 obtain ⟨_, ⟨cs, T, z, h2, h3⟩, _⟩ := hg.1 g h
 unfold World.var?
 rw [hn]
 simp only [Option.bind_some, h2]
 have h3 : cs.toList = U.glob g := h3
 rw [← h3]
theorem below_drewN (w : World) (k : Nat) : Below w.heap.size w (w.drewN k) := ⟨rfl, rfl, rfl, Nat.le_refl _, fun _ _ => rfl⟩
theorem below_grow (w : World) (os : Array Obj) : Below w.heap.size w (grow w os) :=
 ⟨rfl, rfl, rfl, by simp [grow], fun k hk => by simp only [grow]; rw [Array.getElem?_append_left hk]⟩
theorem kitoa (n : Int) (h : -9223372036854775808 ≤ n ∧ n ≤ 9223372036854775807) : Meets Tryz.prog Dc 61 [iS n] [] (wS (itoaW n)) [] := by
 refine meets_below Tryz.call61 fun w E vs hs hd => ?_
 simp only [DenA, Den] at hd
 obtain ⟨v, v2, rfl, hv, rfl⟩ := hd
 cases hv
 have htab : Go.Lib.TabIs Tryz.prog w "internal/strconv.uint64pow10" .u64 Go.Lib.pow10Tab := by
  unfold Go.Lib.TabIs
  rw [var_glob hs.glob (g := 3) (by kernel_rfl) (by decide)]
  exact congrArg some (by kernel_rfl)
 refine (Any.strconv_Itoa itoa_lays n h.1 h.2 w htab).mono ?_
 rintro e w' ⟨rfl, k, os, rfl⟩
 refine ⟨_, rfl, (below_drewN w k).trans ((below_grow (w.drewN k) os).mono (below_drewN w k).size), ?_⟩
 rw [itoaW_eq n h]
 exact .str _
/-- what Atoi says of a word -/
def atoiN (l : Wd) : Int := match Go.Lib.atoiAll l with
 | .ok n => n
 | Go.Lib.NumEnd.syntax => 0
 | .range => Go.Lib.atoiSat l
def atoiE (l : Wd) : SV Cd := match Go.Lib.atoiAll l with
 | .ok _ => .p (.lit .nilIface)
 | _ => .iface 176 .any
theorem glob_cell {w : World} {E : Env} (hg : GlobOK Cd w E) {g : Nat} (h : U.gifc g = true) : ∃ ev, w.cell? ⟨g, 0, none⟩ = some ev ∧ (ev = .nilIface ∨ ∃ te pe, ev = .iface te pe) := by
 obtain ⟨_, v, T, z, h1, h2⟩ := hg.2 g h
 exact ⟨v, by simp [World.cell?, h1], h2⟩
theorem katoi (l : Wd) (h : l.length ≤ 281474976710656) : Meets Tryz.prog Dc 103 [wS l] [] (.tuple [iS (atoiN l), atoiE l]) [] := by
 refine meets_below Tryz.call103 fun w E vs hs hd => ?_
 simp only [DenA, Den] at hd
 obtain ⟨v, v2, rfl, hv, rfl⟩ := hd
 cases hv
 unfold atoiN atoiE
 cases ha : Go.Lib.atoiAll l with
 | ok n =>
  refine (Any.strconv_Atoi_ok atoi_lays ⟨⟨l⟩⟩ (by show l.length ≤ _; omega) n ha w).mono ?_
  rintro e w' ⟨rfl, hw⟩
  refine ⟨_, rfl, ?_, ?_⟩
  ·rcases hw with rfl | ⟨t, rfl⟩
   ·exact Below.refl _ _
   ·exact Go.Lib.bytesWorld_below _ _ _
  ·simp only [Den, DenA]
   exact ⟨_, rfl, _, _, rfl, .int _ _, _, _, rfl, .lit _ rfl, rfl⟩
 | range =>
  obtain ⟨ev, h1, h2⟩ := glob_cell hs.glob (g := 5) rfl
  refine (Any.strconv_Atoi_range atoi_lays ⟨⟨l⟩⟩ (by show l.length ≤ _; omega) ha ev w h1 h2).mono ?_
  rintro e w' ⟨N, rfl, _, _, hb⟩
  refine ⟨_, rfl, hb, ?_⟩
  simp only [Den, DenA]
  exact ⟨_, rfl, _, _, rfl, .int _ _, _, _, rfl, ⟨_, rfl, trivial⟩, rfl⟩
 | _ =>
  obtain ⟨ev, h1, h2⟩ := glob_cell hs.glob (g := 4) rfl
  refine (Any.strconv_Atoi_syntax atoi_lays ⟨⟨l⟩⟩ (by show l.length ≤ _; omega) ha ev w h1 h2).mono ?_
  rintro e w' ⟨N, rfl, _, _, hb⟩
  refine ⟨_, rfl, hb, ?_⟩
  simp only [Den, DenA]
  exact ⟨_, rfl, _, _, rfl, .int _ _, _, _, rfl, ⟨_, rfl, trivial⟩, rfl⟩
theorem kjoin (ws : List Wd) (hn : ws.length ≤ 140737488355328) (hl : (joinW ws).length ≤ 140737488355328) : Meets Tryz.prog Dc 40 [wsS ws, wS [32]] [] (wS (joinW ws)) [] := by
 refine meets_below Tryz.call40 fun w E vs hs hd => ?_
 simp only [DenA, Den] at hd
 obtain ⟨v, v2, rfl, hv, v', v3, rfl, hv', rfl⟩ := hd
 cases hv'
 cases hv with
 | dslNil _ ad cap =>
  refine (Any.strings_Join_none join_lays join_extra ad cap ⟨⟨[32]⟩⟩ w).mono ?_
  rintro e w' ⟨rfl, rfl⟩
  exact ⟨_, rfl, Below.refl _ _, .str _⟩
 | dsl _ _ b o cap cv hF hc hcell hden =>
  rcases Nat.eq_zero_or_pos ws.length with h0 | h0
  ·obtain rfl := List.eq_nil_of_length_eq_zero h0
   refine (Any.strings_Join_none join_lays join_extra (some ⟨b, o, none⟩) cap ⟨⟨[32]⟩⟩ w).mono ?_
   rintro e w' ⟨rfl, rfl⟩
   exact ⟨_, rfl, Below.refl _ _, .str _⟩
  have hne : ws ≠ [] := fun e => by rw [e] at h0; exact absurd h0 (Nat.lt_irrefl _)
  have hmap : (ws.map fun l => (⟨⟨l⟩⟩ : ByteArray)).map (fun x : ByteArray => x.data.toList) = ws := by rw [List.map_map]; exact List.map_id _
  have hlen : (ws.map fun l => (⟨⟨l⟩⟩ : ByteArray)).length = ws.length := List.length_map ..
  have := Any.strings_Join join_lays join_extra b o cap (ws.map fun l => (⟨⟨l⟩⟩ : ByteArray)) ⟨⟨[32]⟩⟩ w (fun j x hx => by
   rw [List.getElem?_map] at hx
   cases hj : ws[j]? with
   | none => rw [hj] at hx; cases hx
   | some l =>
    rw [hj] at hx
    obtain rfl := Option.some.inj hx
    have h1 := hcell j l hj 0 (.str l) rfl
    have h2 := hden j l hj 0 (.str l) rfl
    have hcn : Cd.n U.str = 1 := rfl
    rw [hcn, Nat.mul_one, Nat.add_zero] at h1
    rw [h1]
    generalize cv j 0 = z at h2
    cases h2
    rfl) (hs.F b (hF hne)) (by rw [hlen]; exact hn) (by rw [hlen]; exact hc) (by rw [hmap]; exact hl)
  rw [hmap, hlen] at this
  refine this.mono ?_
  rintro e w' ⟨rfl, hb⟩
  exact ⟨_, rfl, hb, .str _⟩
end Go.SX

/-
 SX, part Va: views in which the lengths of slices may be spelled otherwise, too.
-/
namespace Go.SX
variable {C : Cod}
section
variable {Hp : List (HS C)} {θ : List (Option Nat)} {T T' : List (SV C)} {Hp' : List (HS C)} {m0 : Nat} {ret : SV C}
theorem bkW {m0 : Nat} (h1 : ViewL Hp θ T T' := by first | ((repeat' (first | exact trivial | exact rfl | refine And.intro ?_ ?_ | exact intV | exact fzV | exact fvV | (refine slV (by first | omega | (simp; done) | (simp; omega)) rfl ?_))); done) | fail) (h2 : ViewHs Hp θ θ Hp' := by
    first | ((repeat' (first | exact trivial | exact rfl | refine And.intro ?_ ?_ | exact ⟨_, rfl⟩ | exact intV | (refine rowV ?_; assumption) | (refine rowV ?_; (apply Eq.symm); assumption) | exact fzV | exact fvV | (refine slV (by first | omega | (simp; done) | (simp; omega)) rfl ?_))); done) | fail) (h3 : idO m0 0 θ = true := by rfl) (h4 : ndO θ = true := by rfl) : Back m0 θ T Hp T' Hp' := ⟨h1, h2, h3, h4⟩
theorem hsW {θ l : List (Option Nat)} {m : List (HS C)} (h : ViewHs Hp θ l m := by first | ((repeat' (first | exact trivial | exact rfl | refine And.intro ?_ ?_ | exact ⟨_, rfl⟩ | exact intV | (refine rowV ?_; assumption) | (refine rowV ?_; (apply Eq.symm); assumption) | exact fzV | exact fvV | (refine slV (by first | omega | (simp; done) | (simp; omega)) rfl ?_))); done) | fail) : ViewHs Hp θ l m := h
end
end Go.SX

namespace Go.SX
open Go.Proofs
set_option maxHeartbeats 4000000
set_option maxRecDepth 100000
/-- a value of an interface as a word -/
def anyW : AnyV → Wd
 | .n i => itoaW i
 | .s l => l
def AnyOK : AnyV → Prop
 | .n i => -9223372036854775808 ≤ i ∧ i ≤ 9223372036854775807
 | .s _ => True
@[reducible] def putH (ws : List Wd) (l : List AnyV) : List (HS Cd) := [.vart none [.slice 1 0 1 0 ws.length], .rows U.str ws, .rows U.anyv l]
@[reducible] def putD (n : Nat) (ws : List Wd) (l : List AnyV) : List (HS Cd) := [.vart none [.slice 3 0 1 0 n], .dead, .rows U.anyv l, .rows U.str ws]
theorem putN (l : List AnyV) (x : AnyV) (r : List AnyV) (hl : l = x :: r) (ws : List Wd) (hO : ∀ x ∈ l, AnyOK x) (hn : ws.length + l.length ≤ 1000000) :
  Meets Tryz.prog Dc 37 [.ptr 0 0, .slice 2 0 1 0 l.length] (putH ws l) (.tuple []) (putD (ws.length + l.length) (ws ++ l.map anyW) l) := by
 refine meets_of_gx Ax tab_ok Tryz.func37 (c := _) rfl Tryz.call37 200 ?_
 have hlen : 0 < l.length := by rw [hl]; simp
 have hmap : (l.map anyW).length = l.length := List.length_map ..
 refine loop_up (fun i : Nat => [(10, iS i)]) (fun i => match i with
  | 0 => []
  | i + 1 => [(0, .vart none [.slice 3 0 1 0 (ws.length + (i + 1))]), (1, .dead), (3, .rows U.str (ws ++ (l.take (i + 1)).map anyW))]) (fun i => i ≤ l.length) (fun i => l.length - i) 0 (Nat.zero_le _) (by exact bkI) ?_
 rintro i hi K hK
 rcases Nat.lt_or_ge i l.length with hlt | hge
 ·have hx := hO _ (List.mem_of_getElem? (getD_some (d := Cd.dflt U.anyv) hlt))
  have ht := take_getD (d := Cd.dflt U.anyv) hlt
  obtain ⟨a, ha⟩ : ∃ a, l.getD (i : Int).toNat (Cd.dflt U.anyv) = a := ⟨_, rfl⟩
  have hs : l.getD (0 + (i : Int).toNat) (Cd.dflt U.anyv) = a := by rw [Nat.zero_add]; exact ha
  rw [show l.getD i (Cd.dflt U.anyv) = a from ha] at ht
  rw [ha] at hx
  have hm : (l.take (i + 1)).map anyW = (l.take i).map anyW ++ [anyW a] := by rw [ht, List.map_append]; rfl
  have hi1 : (i : Int) + 1 = ((i + 1 : Nat) : Int) := rfl
  cases i with
  | zero =>
   have hw : ∀ b : Wd, b = anyW a → List.take ws.length ws ++ List.take 1 (List.drop 0 [b]) = ws ++ (l.take (0 + 1)).map anyW := fun b e => by rw [hm, e]; simp
   (repeat' ((conv => whnf); first | (exfalso; omega) | refine x0C ?_ | refine spC (fun hb => ?_) fun hb => ?_ | refine nilC (fun hb => ?_) ?_ | refine taC ?_ | refine saC ?_ | exact sdV | refine side_and ?_ ?_ | refine drawX_of mixed ?_))
   rw [hs]
   cases a with
   | s w =>
    have hw1 := hw w rfl
    (repeat' ((conv => whnf); first | (exfalso; omega) | refine hK 1 [some 0, some 1, some 2, some 4] _ _ ⟨by omega⟩ ⟨by omega⟩ (by exact bkW) | refine x0C ?_ | refine spC (fun hb => ?_) fun hb => ?_ | refine nilC (fun hb => ?_) ?_ | refine taC ?_ | refine saC ?_ | exact sdV | refine side_and ?_ ?_ | refine drawX_of mixed ?_))
   | n z =>
    have h1 := kitoa z hx
    have hw1 := hw (itoaW z) rfl
    (repeat' ((conv => whnf); first | (exfalso; omega) | refine cpC (h1) ?_ | refine dpC (h1) ?_ | refine hK 1 [some 0, some 1, some 2, some 4] _ _ ⟨by omega⟩ ⟨by omega⟩ (by exact bkW) | refine x0C ?_ | refine spC (fun hb => ?_) fun hb => ?_ | refine nilC (fun hb => ?_) ?_ | refine taC ?_ | refine saC ?_ | exact sdV | refine side_and ?_ ?_ | refine drawX_of mixed ?_))
  | succ i =>
   have hw : ∀ b : Wd, b = anyW a → List.take (ws.length + (i + 1)) (ws ++ (l.take (i + 1)).map anyW) ++ List.take 1 (List.drop 0 [b]) = ws ++ (l.take (i + 1 + 1)).map anyW := fun b e => by
    rw [hm, e, List.take_of_length_le (by simp; omega)]; simp
   (repeat' ((conv => whnf); first | (exfalso; omega) | refine x0C ?_ | refine spC (fun hb => ?_) fun hb => ?_ | refine nilC (fun hb => ?_) ?_ | refine taC ?_ | refine saC ?_ | exact sdV | refine side_and ?_ ?_ | refine drawX_of mixed ?_))
   rw [hs]
   cases a with
   | s w =>
    have hw1 := hw w rfl
    (repeat' ((conv => whnf); first | (exfalso; omega) | refine hK (i + 2) [some 0, some 1, some 2, some 5] _ _ ⟨by omega⟩ ⟨by omega⟩ (by exact bkW) | refine x0C ?_ | refine spC (fun hb => ?_) fun hb => ?_ | refine nilC (fun hb => ?_) ?_ | refine taC ?_ | refine saC ?_ | exact sdV | refine side_and ?_ ?_ | refine drawX_of mixed ?_))
   | n z =>
    have h1 := kitoa z hx
    have hw1 := hw (itoaW z) rfl
    (repeat' ((conv => whnf); first | (exfalso; omega) | refine cpC (h1) ?_ | refine dpC (h1) ?_ | refine hK (i + 2) [some 0, some 1, some 2, some 5] _ _ ⟨by omega⟩ ⟨by omega⟩ (by exact bkW) | refine x0C ?_ | refine spC (fun hb => ?_) fun hb => ?_ | refine nilC (fun hb => ?_) ?_ | refine taC ?_ | refine saC ?_ | exact sdV | refine side_and ?_ ?_ | refine drawX_of mixed ?_))
 ·cases i with
  | zero => omega
  | succ i =>
   have hw1 : ws ++ (l.take (i + 1)).map anyW = ws ++ l.map anyW := by rw [List.take_of_length_le hge]
   have hi2 : i + 1 = l.length := by omega
   (repeat' ((conv => whnf); first | (exfalso; omega) | (refine end_fn [some 0, some 1, some 2, some 3] (.inl rfl) ?_ ?_ rfl rfl; (focus exact vwV); exact hsW) | refine x0C ?_ | refine spC (fun hb => ?_) fun hb => ?_ | refine nilC (fun hb => ?_) ?_ | refine taC ?_ | refine saC ?_ | exact sdV | refine side_and ?_ ?_ | refine drawX_of mixed ?_))
@[reducible] def putH0 (l : List AnyV) : List (HS Cd) := [.vart none [.p (.lit (.slice none 0 0))], .rows U.anyv l]
@[reducible] def putD0 (n : Nat) (ws : List Wd) (l : List AnyV) : List (HS Cd) := [.vart none [.slice 2 0 1 0 n], .rows U.anyv l, .rows U.str ws]
theorem put0 (l : List AnyV) (x : AnyV) (r : List AnyV) (hl : l = x :: r) (hO : ∀ x ∈ l, AnyOK x) (hn : l.length ≤ 1000000) :
  Meets Tryz.prog Dc 37 [.ptr 0 0, .slice 1 0 1 0 l.length] (putH0 l) (.tuple []) (putD0 l.length (l.map anyW) l) := by
 refine meets_of_gx Ax tab_ok Tryz.func37 (c := _) rfl Tryz.call37 200 ?_
 have hlen : 0 < l.length := by rw [hl]; simp
 have hmap : (l.map anyW).length = l.length := List.length_map ..
 refine loop_up (fun i : Nat => [(10, iS i)]) (fun i => match i with
  | 0 => []
  | i + 1 => [(0, .vart none [.slice 2 0 1 0 (i + 1)]), (2, .rows U.str ((l.take (i + 1)).map anyW))]) (fun i => i ≤ l.length) (fun i => l.length - i) 0 (Nat.zero_le _) (by exact bkI) ?_
 rintro i hi K hK
 rcases Nat.lt_or_ge i l.length with hlt | hge
 ·have hx := hO _ (List.mem_of_getElem? (getD_some (d := Cd.dflt U.anyv) hlt))
  have ht := take_getD (d := Cd.dflt U.anyv) hlt
  obtain ⟨a, ha⟩ : ∃ a, l.getD (i : Int).toNat (Cd.dflt U.anyv) = a := ⟨_, rfl⟩
  have hs : l.getD (0 + (i : Int).toNat) (Cd.dflt U.anyv) = a := by rw [Nat.zero_add]; exact ha
  rw [show l.getD i (Cd.dflt U.anyv) = a from ha] at ht
  rw [ha] at hx
  have hm : (l.take (i + 1)).map anyW = (l.take i).map anyW ++ [anyW a] := by rw [ht, List.map_append]; rfl
  cases i with
  | zero =>
   have hw : ∀ b : Wd, b = anyW a → List.take 1 (List.drop 0 [b]) = (l.take (0 + 1)).map anyW := fun b e => by rw [hm, e]; simp
   (repeat' ((conv => whnf); first | (exfalso; omega) | refine x0C ?_ | refine spC (fun hb => ?_) fun hb => ?_ | refine nilC (fun hb => ?_) ?_ | refine taC ?_ | refine saC ?_ | exact sdV | refine side_and ?_ ?_ | refine drawX_of mixed ?_))
   rw [hs]
   cases a with
   | s w =>
    have hw1 := hw w rfl
    (repeat' ((conv => whnf); first | (exfalso; omega) | refine hK 1 [some 0, some 1, some 3] _ _ ⟨by omega⟩ ⟨by omega⟩ (by exact bkW) | refine x0C ?_ | refine spC (fun hb => ?_) fun hb => ?_ | refine nilC (fun hb => ?_) ?_ | refine taC ?_ | refine saC ?_ | exact sdV | refine side_and ?_ ?_ | refine drawX_of mixed ?_))
   | n z =>
    have h1 := kitoa z hx
    have hw1 := hw (itoaW z) rfl
    (repeat' ((conv => whnf); first | (exfalso; omega) | refine cpC (h1) ?_ | refine dpC (h1) ?_ | refine hK 1 [some 0, some 1, some 3] _ _ ⟨by omega⟩ ⟨by omega⟩ (by exact bkW) | refine x0C ?_ | refine spC (fun hb => ?_) fun hb => ?_ | refine nilC (fun hb => ?_) ?_ | refine taC ?_ | refine saC ?_ | exact sdV | refine side_and ?_ ?_ | refine drawX_of mixed ?_))
  | succ i =>
   have hw : ∀ b : Wd, b = anyW a → List.take (i + 1) ((l.take (i + 1)).map anyW) ++ List.take 1 (List.drop 0 [b]) = (l.take (i + 1 + 1)).map anyW := fun b e => by
    rw [hm, e, List.take_of_length_le (by simp; omega)]; simp
   (repeat' ((conv => whnf); first | (exfalso; omega) | refine x0C ?_ | refine spC (fun hb => ?_) fun hb => ?_ | refine nilC (fun hb => ?_) ?_ | refine taC ?_ | refine saC ?_ | exact sdV | refine side_and ?_ ?_ | refine drawX_of mixed ?_))
   rw [hs]
   cases a with
   | s w =>
    have hw1 := hw w rfl
    (repeat' ((conv => whnf); first | (exfalso; omega) | refine hK (i + 2) [some 0, some 1, some 4] _ _ ⟨by omega⟩ ⟨by omega⟩ (by exact bkW) | refine x0C ?_ | refine spC (fun hb => ?_) fun hb => ?_ | refine nilC (fun hb => ?_) ?_ | refine taC ?_ | refine saC ?_ | exact sdV | refine side_and ?_ ?_ | refine drawX_of mixed ?_))
   | n z =>
    have h1 := kitoa z hx
    have hw1 := hw (itoaW z) rfl
    (repeat' ((conv => whnf); first | (exfalso; omega) | refine cpC (h1) ?_ | refine dpC (h1) ?_ | refine hK (i + 2) [some 0, some 1, some 4] _ _ ⟨by omega⟩ ⟨by omega⟩ (by exact bkW) | refine x0C ?_ | refine spC (fun hb => ?_) fun hb => ?_ | refine nilC (fun hb => ?_) ?_ | refine taC ?_ | refine saC ?_ | exact sdV | refine side_and ?_ ?_ | refine drawX_of mixed ?_))
 ·cases i with
  | zero => omega
  | succ i =>
   have hw1 : (l.take (i + 1)).map anyW = l.map anyW := by rw [List.take_of_length_le hge]
   have hi2 : i + 1 = l.length := by omega
   (repeat' ((conv => whnf); first | (exfalso; omega) | (refine end_fn [some 0, some 1, some 2] (.inl rfl) ?_ ?_ rfl rfl; (focus exact vwV); exact hsW) | refine x0C ?_ | refine spC (fun hb => ?_) fun hb => ?_ | refine nilC (fun hb => ?_) ?_ | refine taC ?_ | refine saC ?_ | exact sdV | refine side_and ?_ ?_ | refine drawX_of mixed ?_))
/-! one of two words -/
@[reducible] def writH (ws : List Wd) : List (HS Cd) := [.vart none [.slice 1 0 1 0 ws.length], .rows U.str ws]
@[reducible] def writD (n : Nat) (ws : List Wd) : List (HS Cd) := [.vart none [.slice 2 0 1 0 n], .dead, .rows U.str ws]
theorem chooseN (b : Bool) (x y : Wd) (ws : List Wd) (hn : ws.length ≤ 900000) :
  Meets Tryz.prog Dc 38 [.ptr 0 0, bS b, wS x, wS y] (writH ws) (.tuple []) (writD (ws.length + 1) (ws ++ [if b then x else y])) := by
 have h1 := putN [.s x] (.s x) [] rfl ws (fun a ha => by simp at ha; subst ha; trivial) (by simp; omega)
 have h2 := putN [.s y] (.s y) [] rfl ws (fun a ha => by simp at ha; subst ha; trivial) (by simp; omega)
 cases b with
 | true =>
  refine meets_of_gx Ax tab_ok Tryz.func38 (c := _) rfl Tryz.call38 100 ?_
  (repeat' ((conv => whnf); first | (exfalso; omega) | (refine callh [some 0, some 1, some 2] h1 rfl rfl ⟨rfl, rfl, rfl, trivial⟩ ?_) | (refine end_fn [some 0, some 1, some 3] (.inl rfl) ?_ ?_ rfl rfl; (focus exact vwV); exact hsW) | refine x0C ?_ | refine spC (fun hb => ?_) fun hb => ?_ | refine nilC (fun hb => ?_) ?_ | refine taC ?_ | refine saC ?_ | exact sdV | refine side_and ?_ ?_ | refine drawX_of mixed ?_))
 | false =>
  refine meets_of_gx Ax tab_ok Tryz.func38 (c := _) rfl Tryz.call38 100 ?_
  (repeat' ((conv => whnf); first | (exfalso; omega) | (refine callh [some 0, some 1, some 2] h2 rfl rfl ⟨rfl, rfl, rfl, trivial⟩ ?_) | (refine end_fn [some 0, some 1, some 3] (.inl rfl) ?_ ?_ rfl rfl; (focus exact vwV); exact hsW) | refine x0C ?_ | refine spC (fun hb => ?_) fun hb => ?_ | refine nilC (fun hb => ?_) ?_ | refine taC ?_ | refine saC ?_ | exact sdV | refine side_and ?_ ?_ | refine drawX_of mixed ?_))
/-! the same, where the length is spelled otherwise -/
@[reducible] def putHn (n : Nat) (ws : List Wd) (l : List AnyV) : List (HS Cd) := [.vart none [.slice 1 0 1 0 n], .rows U.str ws, .rows U.anyv l]
@[reducible] def writHn (n : Nat) (ws : List Wd) : List (HS Cd) := [.vart none [.slice 1 0 1 0 n], .rows U.str ws]
theorem putM (n : Nat) (l : List AnyV) (x : AnyV) (r : List AnyV) (hl : l = x :: r) (ws : List Wd) (hO : ∀ x ∈ l, AnyOK x) (hw : n = ws.length) (hn : n + l.length ≤ 1000000) :
  Meets Tryz.prog Dc 37 [.ptr 0 0, .slice 2 0 1 0 l.length] (putHn n ws l) (.tuple []) (putD (n + l.length) (ws ++ l.map anyW) l) := by
 subst hw; exact putN l x r hl ws hO hn
theorem chooseM (n : Nat) (b : Bool) (x y : Wd) (ws : List Wd) (hw : n = ws.length) (hn : n ≤ 900000) :
  Meets Tryz.prog Dc 38 [.ptr 0 0, bS b, wS x, wS y] (writHn n ws) (.tuple []) (writD (n + 1) (ws ++ [if b then x else y])) := by
 subst hw; exact chooseN b x y ws hn
end Go.SX

/-
 Plain law: bits of rows.
-/
namespace Go.SX
theorem pow_min {x : Nat} (hx : x < 48) : (2 : Int) ^ (min (x : Int).toNat IntKind.i64.bits) = ((2 ^ x : Nat) : Int) := by
 rw [show min (x : Int).toNat IntKind.i64.bits = x by simp [IntKind.bits]; omega]
 simp
theorem shr_bit {r : Int} {x : Nat} (h0 : 0 ≤ r) (hx : x < 48) : decide (((shrop .i64 r x).tmod 2) = 1) = r.toNat.testBit x := by
 obtain ⟨m, rfl⟩ : ∃ m : Nat, r = m := ⟨r.toNat, by omega⟩
 unfold shrop
 have hp : (0 : Int) ≤ ((2 ^ x : Nat) : Int) := Int.natCast_nonneg _
 rw [pow_min hx, Int.fdiv_eq_ediv_of_nonneg _ hp]
 rw [show ((m : Int) / ((2 ^ x : Nat) : Int)) = ((m / 2 ^ x : Nat) : Int) from (Int.natCast_ediv _ _).symm]
 rw [show (((m / 2 ^ x : Nat) : Int).tmod 2) = (((m / 2 ^ x) % 2 : Nat) : Int) from rfl]
 simp only [Int.toNat_natCast, Nat.testBit, Nat.shiftRight_eq_div_pow, Nat.and_comm 1, Nat.and_one_is_mod]
 generalize m / 2 ^ x = q
 rcases Nat.mod_two_eq_zero_or_one q with h | h <;> simp [h]
theorem shl_one {x : Nat} (hx : x < 48) : shlop .i64 1 x = ((2 ^ x : Nat) : Int) := by
 unfold shlop
 rw [pow_min hx, Int.one_mul]
 have : 2 ^ x ≤ 2 ^ 47 := Nat.pow_le_pow_right (by omega) (by omega)
 generalize 2 ^ x = q at *
 exact inR_i64 (by omega) (by omega)
theorem or_nat {a b : Nat} (ha : a < 2 ^ 48) (hb : b < 2 ^ 48) : bitop .or .i64 (a : Int) (b : Int) = ((a ||| b : Nat) : Int) := by
 have e : (BitVec.ofInt 64 (a : Int) ||| BitVec.ofInt 64 (b : Int)).toNat = a ||| b := by
  rw [BitVec.toNat_or]
  have h1 : (BitVec.ofInt 64 (a : Int)).toNat = a := by simp; omega
  have h2 : (BitVec.ofInt 64 (b : Int)).toNat = b := by simp; omega
  rw [h1, h2]
 show IntKind.i64.wrap (((BitVec.ofInt 64 (a : Int) ||| BitVec.ofInt 64 (b : Int)).toNat : Nat) : Int) = _
 rw [e]
 have : a ||| b < 2 ^ 48 := Nat.or_lt_two_pow ha hb
 exact inR_i64 (by omega) (by omega)
end Go.SX

/-
 Plain: the runs of a row.
-/
namespace Go.SX
def runLen (n : Nat) : Nat := tzF 64 n + toF 64 (n / 2 ^ tzF 64 n)
def stepR (n : Nat) : Nat := n / 2 ^ runLen n * 2 ^ runLen n
def runAt (n : Nat) : Nat × Nat := (tzF 64 n, runLen n - 1)
theorem runsF_succ (f n : Nat) : runsF (f + 1) n = if n = 0 then [] else runAt n :: runsF f (stepR n) := rfl
def leftJ : Nat → Nat → Nat
 | n, 0 => n
 | n, j + 1 => stepR (leftJ n j)
theorem leftJ_comm : ∀ n j : Nat, leftJ (stepR n) j = stepR (leftJ n j)
 | n, 0 => rfl
 | n, j + 1 => by show stepR (leftJ (stepR n) j) = stepR (stepR (leftJ n j)); rw [leftJ_comm n j]
theorem tzF_spec : ∀ (f n : Nat), n ≠ 0 → n < 2 ^ f → n % 2 ^ tzF f n = 0 ∧ n / 2 ^ tzF f n % 2 = 1 ∧ tzF f n < f
 | 0, n, h0, h => by omega
 | f + 1, n, h0, h => by
  unfold tzF
  split
  ·rename_i h1; simp; omega
  ·rename_i h1
   have h2 : n / 2 < 2 ^ f := by rw [Nat.pow_succ] at h; omega
   obtain ⟨a, b, c⟩ := tzF_spec f (n / 2) (by omega) h2
   have e : n / 2 ^ (1 + tzF f (n / 2)) = n / 2 / 2 ^ tzF f (n / 2) := by rw [Nat.pow_add, Nat.pow_one, Nat.div_div_eq_div_mul]
   refine ⟨?_, by rw [e]; exact b, by omega⟩
   rw [Nat.pow_add, Nat.pow_one, Nat.mod_mul, a]; omega
theorem toF_pos {n : Nat} (h : n % 2 = 1) : 1 ≤ toF 64 n := by
 show 1 ≤ toF (63 + 1) n
 unfold toF; rw [if_pos h]; omega
theorem stepR_lt {n : Nat} (h0 : n ≠ 0) (h : n < 2 ^ 64) : stepR n < n := by
 obtain ⟨a, b, c⟩ := tzF_spec 64 n h0 h
 have ht := toF_pos b
 have h1 : n % 2 ^ runLen n ≠ 0 := fun e => by
  have h2 : 2 ^ (tzF 64 n + 1) ∣ n := Nat.dvd_trans (Nat.pow_dvd_pow 2 (by unfold runLen; omega)) (Nat.dvd_of_mod_eq_zero e)
  obtain ⟨q, hq⟩ := h2
  have h3 : n / 2 ^ tzF 64 n = 2 * q := Nat.div_eq_of_eq_mul_right (Nat.two_pow_pos _) (by rw [← Nat.mul_assoc, ← Nat.pow_succ]; exact hq)
  omega
 have h4 := Nat.div_add_mod n (2 ^ runLen n)
 have h5 : stepR n = 2 ^ runLen n * (n / 2 ^ runLen n) := Nat.mul_comm _ _
 omega
theorem stepR_zero : stepR 0 = 0 := by unfold stepR; simp
theorem leftJ_le {n : Nat} (h : n < 2 ^ 64) : ∀ j : Nat, leftJ n j ≤ n
 | 0 => Nat.le_refl _
 | j + 1 => by
  have := leftJ_le h j
  show stepR (leftJ n j) ≤ n
  by_cases h0 : leftJ n j = 0
  ·rw [h0, stepR_zero]; omega
  ·have := stepR_lt h0 (by omega); omega
theorem runs_get : ∀ (f n j : Nat), n ≤ f → n < 2 ^ 64 → (runsF f n)[j]? = if leftJ n j = 0 then none else some (runAt (leftJ n j))
 | 0, n, j, hn, _ => by
  obtain rfl : n = 0 := by omega
  have : leftJ 0 j = 0 := by have := leftJ_le (n := 0) (by decide) j; omega
  rw [this]; rfl
 | f + 1, n, j, hn, h64 => by
  rw [runsF_succ]
  by_cases h0 : n = 0
  ·rw [if_pos h0]
   subst h0
   have : leftJ 0 j = 0 := by have := leftJ_le (n := 0) (by decide) j; omega
   rw [this]; rfl
  ·rw [if_neg h0]
   cases j with
   | zero => rw [show leftJ n 0 = n from rfl, if_neg h0]; rfl
   | succ j =>
    have hs := stepR_lt h0 h64
    rw [List.getElem?_cons_succ, runs_get f (stepR n) j (by omega) (by omega), leftJ_comm]
    rfl
def runsN (n : Nat) : List (Nat × Nat) := runsF n n
theorem runsN_get {n j : Nat} (h : n < 2 ^ 64) (h0 : leftJ n j ≠ 0) : (runsN n)[j]? = some (runAt (leftJ n j)) := by
 unfold runsN; rw [runs_get n n j (Nat.le_refl _) h, if_neg h0]
theorem runsN_len {n j : Nat} (h : n < 2 ^ 64) (h0 : leftJ n j ≠ 0) : j < (runsN n).length := by
 rcases Nat.lt_or_ge j (runsN n).length with h1 | h1
 ·exact h1
 ·have := runsN_get h h0
  rw [List.getElem?_eq_none h1] at this; cases this
theorem runsN_end {n j : Nat} (h : n < 2 ^ 64) (h0 : leftJ n j = 0) : (runsN n).length ≤ j := by
 rcases Nat.lt_or_ge j (runsN n).length with h1 | h1
 ·have := runs_get n n j (Nat.le_refl _) h
  rw [if_pos h0] at this
  have h2 : (runsN n)[j]? = none := this
  rw [List.getElem?_eq_none_iff] at h2; omega
 ·exact h1
theorem runsN_take {n j : Nat} (h : n < 2 ^ 64) (h0 : leftJ n j ≠ 0) : (runsN n).take (j + 1) = (runsN n).take j ++ [runAt (leftJ n j)] := by
 rw [List.take_add_one, runsN_get h h0]; rfl
theorem rowsW_snoc (y : Nat) : ∀ (l : List Int) (r : Int), rowsW y (l ++ [r]) = rowsW y l ++ (runsN r.toNat).flatMap (runW (y + l.length))
 | [], r => by simp [rowsW, runsN]
 | a :: l, r => by
  simp only [List.cons_append, rowsW, rowsW_snoc (y + 1) l r, List.append_assoc, List.length_cons]
  rw [show y + 1 + l.length = y + (l.length + 1) by omega]
/-! the program's arithmetic on bits -/
theorem u64_lt {n : Nat} (h : n < 2 ^ 64) : IntKind.u64.wrap (n : Int) = n := by
 simp only [IntKind.wrap, IntKind.signed, IntKind.bits]
 simp
 omega
theorem and_neg {n : Nat} (h0 : n ≠ 0) (h : n < 2 ^ 64) : n &&& (2 ^ 64 - n) = 2 ^ tzF 64 n := by
 obtain ⟨a, b, c⟩ := tzF_spec 64 n h0 h
 generalize tzF 64 n = k at *
 obtain ⟨m, hm⟩ := Nat.dvd_of_mod_eq_zero a
 have hm2 : n / 2 ^ k = m := by rw [hm, Nat.mul_div_cancel_left _ (Nat.two_pow_pos _)]
 rw [hm2] at b
 obtain ⟨j, rfl⟩ : ∃ j, m = 2 * j + 1 := ⟨m / 2, by omega⟩
 refine Nat.eq_of_testBit_eq fun i => ?_
 rw [Nat.testBit_and, show 2 ^ 64 - n = 2 ^ 64 - ((n - 1) + 1) by omega, Nat.testBit_two_pow_sub_succ (by omega), Nat.testBit_two_pow]
 have hn1 : n - 1 = 2 ^ k * (2 * j) + (2 ^ k - 1) := by rw [hm, Nat.mul_add]; have := Nat.two_pow_pos k; omega
 rcases Nat.lt_trichotomy i k with hi | hi | hi
 ·have e1 : n.testBit i = false := by
   rw [hm, Nat.testBit_two_pow_mul]; simp; omega
  rw [e1]; simp; omega
 ·subst hi
  have e1 : n.testBit i = true := by
   rw [hm, Nat.testBit_two_pow_mul]; simp
  have e2 : (n - 1).testBit i = false := by
   rw [Nat.testBit_eq_decide_div_mod_eq, hn1]
   have : (2 ^ i * (2 * j) + (2 ^ i - 1)) / 2 ^ i = 2 * j := by
    rw [Nat.add_comm, Nat.add_mul_div_left _ _ (Nat.two_pow_pos i), Nat.div_eq_of_lt (by have := Nat.two_pow_pos i; omega)]; omega
   rw [this]; simp
  rw [e1, e2]; simp; omega
 ·have e1 : (n - 1).testBit i = n.testBit i := by
   obtain ⟨t, rfl⟩ : ∃ t, i = (k + 1) + t := ⟨i - (k + 1), by omega⟩
   have d1 : n / 2 ^ (k + 1) = j := by
    rw [hm, Nat.pow_succ, ← Nat.div_div_eq_div_mul, Nat.mul_div_cancel_left _ (Nat.two_pow_pos _)]; omega
   have d2 : (n - 1) / 2 ^ (k + 1) = j := by
    have h5 : n - 1 = 2 ^ (k + 1) * j + (2 ^ k - 1) := by rw [hn1, Nat.pow_succ, Nat.mul_assoc]
    have h6 : 2 ^ (k + 1) = 2 * 2 ^ k := by rw [Nat.pow_succ, Nat.mul_comm]
    have h7 := Nat.two_pow_pos k
    rw [h5, Nat.add_comm, Nat.add_mul_div_left _ _ (Nat.two_pow_pos (k + 1)), Nat.div_eq_of_lt (by omega), Nat.zero_add]
   rw [Nat.add_comm (k + 1) t, ← Nat.testBit_div_two_pow, ← Nat.testBit_div_two_pow, d1, d2]
  rw [e1]
  cases n.testBit i <;> simp <;> omega
theorem toF_spec : ∀ (f m : Nat), m % 2 ^ toF f m = 2 ^ toF f m - 1
 | 0, m => by simp [toF, Nat.mod_one]
 | f + 1, m => by
  unfold toF
  split
  ·rename_i h1
   have ih := toF_spec f (m / 2)
   have hp := Nat.two_pow_pos (toF f (m / 2))
   rw [Nat.add_comm 1, Nat.pow_succ, Nat.mul_comm _ 2, Nat.mod_mul, ih]; omega
  ·simp [Nat.mod_one]
theorem tzF_not : ∀ (f m : Nat), m < 2 ^ f → tzF f (2 ^ f - 1 - m) = toF f m
 | 0, m, h => rfl
 | f + 1, m, h => by
  have hp := Nat.two_pow_pos f
  have e : 2 ^ (f + 1) = 2 * 2 ^ f := by rw [Nat.pow_succ, Nat.mul_comm]
  unfold tzF toF
  by_cases h1 : m % 2 = 1
  ·rw [if_pos h1, if_neg (by omega), show (2 ^ (f + 1) - 1 - m) / 2 = 2 ^ f - 1 - m / 2 by omega, tzF_not f (m / 2) (by omega)]
  ·rw [if_neg h1, if_pos (by omega)]
theorem runLen_le {n : Nat} (h0 : n ≠ 0) (h : n < 2 ^ 48) : tzF 64 n < runLen n ∧ runLen n ≤ 48 := by
 obtain ⟨a, b, c⟩ := tzF_spec 64 n h0 (by omega)
 have ht := toF_pos b
 have h2 := toF_spec 64 (n / 2 ^ tzF 64 n)
 refine ⟨by unfold runLen; omega, ?_⟩
 have h3 : 2 ^ toF 64 (n / 2 ^ tzF 64 n) - 1 ≤ n / 2 ^ tzF 64 n := by rw [← h2]; exact Nat.mod_le _ _
 have h4 : 2 ^ (toF 64 (n / 2 ^ tzF 64 n) - 1) ≤ n / 2 ^ tzF 64 n := by
  obtain ⟨t, ht'⟩ : ∃ t, toF 64 (n / 2 ^ tzF 64 n) = t + 1 := ⟨toF 64 (n / 2 ^ tzF 64 n) - 1, by omega⟩
  rw [ht', Nat.pow_succ] at h3
  rw [ht', Nat.add_sub_cancel]
  have := Nat.two_pow_pos t
  omega
 have h5 : 2 ^ (toF 64 (n / 2 ^ tzF 64 n) - 1) * 2 ^ tzF 64 n ≤ n := Nat.le_trans (Nat.mul_le_mul_right _ h4) (Nat.div_mul_le_self _ _)
 rw [← Nat.pow_add] at h5
 have h6 : 2 ^ (toF 64 (n / 2 ^ tzF 64 n) - 1 + tzF 64 n) < 2 ^ 48 := Nat.lt_of_le_of_lt h5 h
 have h7 := (Nat.pow_lt_pow_iff_right (a := 2) (by omega)).1 h6
 unfold runLen
 omega
theorem stepR_bits {n : Nat} (h0 : n ≠ 0) (h : n < 2 ^ 64) : n &&& (2 ^ 64 - 1 - (2 ^ (runLen n - tzF 64 n) - 1) * 2 ^ tzF 64 n) = stepR n := by
 obtain ⟨a, b, c⟩ := tzF_spec 64 n h0 h
 have ht := toF_pos b
 have hlt : tzF 64 n < runLen n := by unfold runLen; omega
 unfold stepR
 generalize runLen n = e at *
 generalize tzF 64 n = k at *
 refine Nat.eq_of_testBit_eq fun i => ?_
 have hm : ((2 ^ (e - k) - 1) * 2 ^ k).testBit i = (decide (k ≤ i) && decide (i < e)) := by
  rw [Nat.mul_comm, Nat.testBit_two_pow_mul, Nat.testBit_two_pow_sub_one]
  by_cases h1 : k ≤ i
  ·simp [h1]; omega
  ·simp [h1]
 have hbit : n.testBit i = true → k ≤ i ∧ i < 64 := fun hb => by
  refine ⟨?_, ?_⟩
  ·rcases Nat.lt_or_ge i k with h1 | h1
   ·exfalso
    obtain ⟨q, hq⟩ := Nat.dvd_of_mod_eq_zero a
    rw [hq, Nat.testBit_two_pow_mul] at hb
    simp at hb; omega
   ·exact h1
  ·rcases Nat.lt_or_ge i 64 with h1 | h1
   ·exact h1
   ·rw [Nat.testBit_lt_two_pow (Nat.lt_of_lt_of_le h (Nat.pow_le_pow_right (by omega) h1))] at hb; cases hb
 rw [Nat.testBit_and, Nat.mul_comm (n / 2 ^ e), Nat.testBit_two_pow_mul]
 by_cases hb : n.testBit i = true
 ·obtain ⟨h1, h2⟩ := hbit hb
  have hr : e ≤ i → (n / 2 ^ e).testBit (i - e) = true := fun h3 => by rw [Nat.testBit_div_two_pow, Nat.sub_add_cancel h3]; exact hb
  rcases Nat.lt_or_ge ((2 ^ (e - k) - 1) * 2 ^ k) (2 ^ 64) with h4 | h4
  ·rw [show 2 ^ 64 - 1 - (2 ^ (e - k) - 1) * 2 ^ k = 2 ^ 64 - ((2 ^ (e - k) - 1) * 2 ^ k + 1) by omega, Nat.testBit_two_pow_sub_succ h4, hm, hb]
   by_cases h3 : e ≤ i
   ·simp [h1, h2, h3, hr h3]
   ·simp [h1, h2, h3]; omega
  ·rw [show 2 ^ 64 - 1 - (2 ^ (e - k) - 1) * 2 ^ k = 0 by omega]
   by_cases h3 : e ≤ i
   ·exfalso
    have h5 : (2 ^ (e - k) - 1) * 2 ^ k < 2 ^ e := by
     have : 2 ^ (e - k) * 2 ^ k = 2 ^ e := by rw [← Nat.pow_add, Nat.sub_add_cancel (by omega)]
     have h6 := Nat.two_pow_pos k
     have h7 := Nat.two_pow_pos (e - k)
     have h9 := Nat.two_pow_pos e
     rw [Nat.sub_mul, this]; omega
    have h8 : 2 ^ e ≤ 2 ^ 64 := Nat.pow_le_pow_right (by omega) (by omega)
    omega
   ·simp [h3]
 ·have hb : n.testBit i = false := by simpa using hb
  rw [hb, Bool.false_and]
  by_cases h3 : e ≤ i
  ·have : (n / 2 ^ e).testBit (i - e) = false := by rw [Nat.testBit_div_two_pow, Nat.sub_add_cancel h3]; exact hb
   rw [this]; simp
  ·simp [h3]
theorem rowsW_append : ∀ (y : Nat) (a b : List Int), rowsW y (a ++ b) = rowsW y a ++ rowsW (y + a.length) b
 | y, [], b => by simp [rowsW]
 | y, x :: a, b => by
  simp only [List.cons_append, rowsW, rowsW_append (y + 1) a b, List.append_assoc, List.length_cons]
  rw [show y + 1 + a.length = y + (a.length + 1) by omega]
theorem rowsW_take_len (rows : List Int) (i : Nat) : (rowsW 0 (rows.take i)).length ≤ (rowsW 0 rows).length := by
 have : rowsW 0 rows = rowsW 0 (rows.take i) ++ rowsW (0 + (rows.take i).length) (rows.drop i) := by rw [← rowsW_append, List.take_append_drop]
 rw [this]; simp
theorem flat_take_len {α β : Type} (f : α → List β) (l : List α) (j : Nat) : ((l.take j).flatMap f).length ≤ (l.flatMap f).length := by
 have : l.flatMap f = (l.take j).flatMap f ++ (l.drop j).flatMap f := by rw [← List.flatMap_append, List.take_append_drop]
 rw [this]; simp
end Go.SX

namespace Go.SX
open Go.Proofs
set_option maxHeartbeats 4000000
set_option maxRecDepth 100000
theorem bits_u64 {n : Nat} (h : n < 2 ^ 64) : (BitVec.ofInt 64 (n : Int)).toNat = n := by simp; omega
theorem tz_tab : ∀ k : Fin 64, intAt tzL (0 + (shrop .u64 (IntKind.u64.wrap (((2 ^ k.val : Nat) : Int) * 285870213051353865)) 58).toNat) = k.val := by decide +kernel
theorem tzN_nat {n : Nat} (h0 : n ≠ 0) (h : n < 2 ^ 64) : tzN (n : Int) = (tzF 64 n : Nat) := by
 unfold tzN tzI
 rw [if_neg (by omega)]
 have h1 : IntKind.u64.wrap (0 - (n : Int)) = ((2 ^ 64 - n : Nat) : Int) := by
  simp only [IntKind.wrap, IntKind.signed, IntKind.bits]
  simp
  omega
 have h2 : bitop .and .u64 (n : Int) (IntKind.u64.wrap (0 - (n : Int))) = ((2 ^ tzF 64 n : Nat) : Int) := by
  rw [h1]
  unfold bitop
  rw [show IntKind.u64.bits = 64 from rfl]
  have : ((BitVec.ofInt 64 (n : Int) &&& BitVec.ofInt 64 ((2 ^ 64 - n : Nat) : Int)).toNat : Int) = ((2 ^ tzF 64 n : Nat) : Int) := by
   rw [BitVec.toNat_and, bits_u64 h, bits_u64 (by omega), and_neg h0 h]
  simp only [this]
  refine u64_lt ?_
  exact Nat.pow_lt_pow_right (by omega) (tzF_spec 64 n h0 h).2.2
 rw [h2]
 exact tz_tab ⟨tzF 64 n, (tzF_spec 64 n h0 h).2.2⟩
theorem ktz (n : Nat) (h0 : n ≠ 0) (h : n < 2 ^ 64) : Meets Tryz.prog Dc 88 [.p (.int .u64 n)] [] (iS (tzF 64 n : Nat)) [] := by
 have := tz (n : Int)
 rw [tzN_nat h0 h] at this
 exact this
theorem shr_nat {n k : Nat} (h : k ≤ 64) : shrop .u64 (n : Int) (k : Int) = ((n / 2 ^ k : Nat) : Int) := by
 unfold shrop
 rw [show min (k : Int).toNat IntKind.u64.bits = k by simp [IntKind.bits]; omega, Int.fdiv_eq_ediv_of_nonneg _ (Int.le_of_lt (Int.pow_pos (by omega)))]
 simp
theorem xor_all {m : Nat} (h : m < 2 ^ 64) : bitop .xor .u64 (if IntKind.u64.signed then -1 else IntKind.u64.max) (m : Int) = ((2 ^ 64 - 1 - m : Nat) : Int) := by
 unfold bitop
 rw [show IntKind.u64.bits = 64 from rfl, show (if IntKind.u64.signed = true then (-1 : Int) else IntKind.u64.max) = ((2 ^ 64 - 1 : Nat) : Int) from rfl]
 have : ((BitVec.ofInt 64 ((2 ^ 64 - 1 : Nat) : Int) ^^^ BitVec.ofInt 64 (m : Int)).toNat : Int) = ((2 ^ 64 - 1 - m : Nat) : Int) := by
  rw [BitVec.toNat_xor, bits_u64 h, bits_u64 (by omega)]
  refine congrArg _ (Nat.eq_of_testBit_eq fun i => ?_)
  rw [Nat.testBit_xor, Nat.testBit_two_pow_sub_one, show 2 ^ 64 - 1 - m = 2 ^ 64 - (m + 1) by omega, Nat.testBit_two_pow_sub_succ h]
  by_cases h1 : i < 64
  ·simp [h1]
  ·rw [Nat.testBit_lt_two_pow (Nat.lt_of_lt_of_le h (Nat.pow_le_pow_right (by omega) (by omega)))]; simp [h1]
 simp only [this]
 exact u64_lt (by omega)
theorem ktz2 (n : Nat) (h0 : n ≠ 0) (h : n < 2 ^ 48) : Meets Tryz.prog Dc 88 [.p (.int .u64 (bitop .xor .u64 (if IntKind.u64.signed then -1 else IntKind.u64.max) (shrop .u64 (n : Int) ((tzF 64 n : Nat) : Int))))] [] (iS ((runLen n - tzF 64 n : Nat) : Int)) [] := by
 obtain ⟨a, b, c⟩ := tzF_spec 64 n h0 (by omega)
 have hle : n / 2 ^ tzF 64 n ≤ n := Nat.div_le_self _ _
 rw [shr_nat (by omega), xor_all (by omega), show runLen n - tzF 64 n = toF 64 (n / 2 ^ tzF 64 n) by unfold runLen; omega, ← tzF_not 64 (n / 2 ^ tzF 64 n) (by omega)]
 clear a
 generalize n / 2 ^ tzF 64 n = m at *
 exact ktz (2 ^ 64 - 1 - m) (by omega) (by omega)
theorem shl_nat {n k : Nat} (h : k ≤ 64) (h2 : n * 2 ^ k < 2 ^ 64) : shlop .u64 (n : Int) (k : Int) = ((n * 2 ^ k : Nat) : Int) := by
 unfold shlop
 rw [show min (k : Int).toNat IntKind.u64.bits = k by simp [IntKind.bits]; omega]
 rw [← u64_lt h2]; simp
theorem step_bits {n : Nat} (h0 : n ≠ 0) (h : n < 2 ^ 48) : bitop .andNot .u64 (n : Int) (shlop .u64 (IntKind.u64.wrap (shlop .u64 1 ((runLen n - tzF 64 n : Nat) : Int) - 1)) ((tzF 64 n : Nat) : Int)) = ((stepR n : Nat) : Int) := by
 obtain ⟨e1, e2⟩ := runLen_le h0 h
 have h64 : n < 2 ^ 64 := by omega
 have hp : 2 ^ (runLen n - tzF 64 n) * 2 ^ tzF 64 n ≤ 2 ^ 48 := by
  rw [← Nat.pow_add, Nat.sub_add_cancel (by omega)]; exact Nat.pow_le_pow_right (by omega) e2
 have hq : 2 ^ (runLen n - tzF 64 n) ≤ 2 ^ 48 := Nat.pow_le_pow_right (by omega) (by omega)
 have q1 := Nat.two_pow_pos (runLen n - tzF 64 n)
 have q2 := Nat.two_pow_pos (tzF 64 n)
 have s1 : shlop .u64 1 ((runLen n - tzF 64 n : Nat) : Int) = ((2 ^ (runLen n - tzF 64 n) : Nat) : Int) := by
  have := shl_nat (n := 1) (k := runLen n - tzF 64 n) (by omega) (by omega)
  rw [Nat.one_mul] at this
  exact this
 have s2 : IntKind.u64.wrap (((2 ^ (runLen n - tzF 64 n) : Nat) : Int) - 1) = ((2 ^ (runLen n - tzF 64 n) - 1 : Nat) : Int) := by
  rw [show ((2 ^ (runLen n - tzF 64 n) : Nat) : Int) - 1 = ((2 ^ (runLen n - tzF 64 n) - 1 : Nat) : Int) by omega]
  exact u64_lt (by omega)
 have hm : (2 ^ (runLen n - tzF 64 n) - 1) * 2 ^ tzF 64 n < 2 ^ 64 := by rw [Nat.sub_mul]; omega
 rw [s1, s2, shl_nat (by omega) hm, ← stepR_bits h0 h64]
 unfold bitop
 rw [show IntKind.u64.bits = 64 from rfl]
 generalize (2 ^ (runLen n - tzF 64 n) - 1) * 2 ^ tzF 64 n = M at *
 have : ((BitVec.ofInt 64 (n : Int) &&& ~~~BitVec.ofInt 64 (M : Int)).toNat : Int) = ((n &&& (2 ^ 64 - 1 - M) : Nat) : Int) := by
  rw [BitVec.toNat_and, bits_u64 h64, BitVec.toNat_not, bits_u64 hm]
 simp only [this]
 exact u64_lt (Nat.lt_of_le_of_lt Nat.and_le_left h64)
end Go.SX
