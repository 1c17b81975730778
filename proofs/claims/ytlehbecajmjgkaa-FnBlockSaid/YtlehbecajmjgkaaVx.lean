/- Part of a proof by a value interpreter: what follows an operation may be put behind it. -/
import Derived.Test.YtlehbecajmjgkaaVw
set_option linter.unusedVariables false
set_option linter.unusedSimpArgs false
namespace Go.Proofs.Ytlehbecajmjgkaa.V

theorem br_bind {α β : Type} (b : Bool) (x y : Option α) (c : α → Option β) : (br b x y).bind c = br b (x.bind c) (y.bind c) := by cases b <;> rfl
theorem bnd_bind {α β γ : Type} (m : Option α) (f : α → Option β) (c : β → Option γ) : (bnd m f).bind c = bnd m (fun x => (f x).bind c) := by cases m <;> rfl

section
variable {K : Cfg} {Ω : Type}

theorem binI_nat {A : Type} (op : BinOp) (k : IntKind) (x y : Int) (f : W → Option A) (c : A → Option Ω) : binI op k x y (fun w => (f w).bind c) = (binI op k x y f).bind c := by
  cases op <;> simp only [binI, br_bind] <;> rfl

theorem opBin_nat {A : Type} (τ : Option Ty) (op : BinOp) (x y : W) (f : W → Option A) (c : A → Option Ω) : opBin τ op x y (fun w => (f w).bind c) = (opBin τ op x y f).bind c := by
  unfold opBin
  split
  · split
    · exact binI_nat ..
    · exact binI_nat ..
    · split
      · exact binI_nat ..
      · rfl
  · split <;> first | rfl | (rw [br_bind]; rfl)
  · split
    · split <;> rfl
    · rfl
  · split
    · split <;> rfl
    · rfl
  · split
    · split <;> rfl
    · rfl
  · rfl

theorem opUn_nat {A : Type} (op : UnOp) (x : W) (f : W → Option A) (c : A → Option Ω) : opUn op x (fun w => (f w).bind c) = (opUn op x f).bind c := by
  unfold opUn; split <;> rfl

theorem opConv_nat {A : Type} (a b : Ty) (x : W) (f : W → Option A) (c : A → Option Ω) : opConv a b x (fun w => (f w).bind c) = (opConv a b x f).bind c := by
  unfold opConv
  split
  · rfl
  · split <;> rfl
  · rfl
  · split <;> rfl
  · rfl

theorem opSlice_nat {A : Type} (τ : Option Ty) (x : W) (lo hi : Option W) (bx : Nat → Option D) (f : W → List Nat → List Nat → Option A) (c : A → Option Ω) :
    opSlice τ x lo hi bx (fun w a b => (f w a b).bind c) = (opSlice τ x lo hi bx f).bind c := by
  unfold opSlice
  split
  · split
    · split
      · rw [bnd_bind]
      · rfl
    · rfl
  · split
    · split
      · split
        · rfl
        · split
          · rw [bnd_bind]
          · rfl
      · split
        · rw [bnd_bind]
        · rfl
    · rfl
  · split
    · split <;> rfl
    · rfl
  · rfl

theorem putK_nat {A : Type} : (τ : Ty) → (x : τ.den) → (g : List Tg) → (p : List Step) → (d : D) → (f : τ.den → List Tg → Option A) → (c : A → Option Ω) → τ.putK x g p d (fun y h => (f y h).bind c) = (τ.putK x g p d f).bind c
  | τ, x, g, [], d, f, c => by
    conv => lhs; rw [Ty.putK]
    conv => rhs; rw [Ty.putK]
    split <;> rfl
  | .pr a b, x, g, .fld 0 :: p, d, f, c => by
    conv => lhs; rw [Ty.putK]
    conv => rhs; rw [Ty.putK]
    exact putK_nat a x.1 _ p d _ c
  | .pr a b, x, g, .fld (i + 1) :: p, d, f, c => by
    conv => lhs; rw [Ty.putK]
    conv => rhs; rw [Ty.putK]
    exact putK_nat b x.2 _ (.fld i :: p) d _ c
  | .arr n t, xs, g, .idx i :: p, d, f, c => by
    conv => lhs; rw [Ty.putK]
    conv => rhs; rw [Ty.putK]
    split
    · rw [bnd_bind]
      congr 1
      funext x
      exact putK_nat t x [] p d _ c
    · rfl
  | .int _, _, _, _ :: _, _, _, _ => by simp [Ty.putK]
  | .bool, _, _, _ :: _, _, _, _ => by simp [Ty.putK]
  | .str, _, _, _ :: _, _, _, _ => by simp [Ty.putK]
  | .sl _, _, _, _ :: _, _, _, _ => by simp [Ty.putK]
  | .un, _, _, _ :: _, _, _, _ => by simp [Ty.putK]
  | .pr _ _, _, _, .idx _ :: _, _, _, _ => by simp [Ty.putK]
  | .arr _ _, _, _, .fld _ :: _, _, _, _ => by simp [Ty.putK]

theorem getK_nat' {A : Type} (τ : Ty) (x : τ.den) (g : List Tg) (p : List Step) (f : D → Option A) (c : A → Option Ω) : τ.getK x g p (fun y => (f y).bind c) = (τ.getK x g p f).bind c := by
  rw [getK_nat τ x g p f, getK_nat τ x g p (fun y => (f y).bind c), Option.bind_assoc]

theorem buildK_nat {A : Type} (arr : Bool) (ev : Operand → W) (f : D → Option A) (c : A → Option Ω) : (ps : List (Nat × Operand)) → (d : D) → buildK arr ev ps d (fun y => (f y).bind c) = (buildK arr ev ps d f).bind c
  | [], d => rfl
  | (i, x) :: r, d => by
    simp only [buildK]
    rw [← getK_nat']
    congr 1
    funext y
    split
    · split
      · rw [← putK_nat]
        congr 1
        funext z h
        exact buildK_nat arr ev f c r _
      · rfl
    · rfl

theorem elemsK_nat {A : Type} (t : Ty) (ev : Operand → W) (f : List t.den → List Nat → Option A) (c : A → Option Ω) : (ps : List (Nat × Operand)) → (xs : List t.den) → (ids : List Nat) →
    elemsK t ev ps xs ids (fun y z => (f y z).bind c) = (elemsK t ev ps xs ids f).bind c
  | [], xs, ids => rfl
  | (i, x) :: r, xs, ids => by
    simp only [elemsK]
    split
    · split
      · split
        · exact elemsK_nat t ev f c r _ _
        · rfl
      · rfl
    · rfl

theorem callK_nat {A : Type} (cn : Con) (i base : Nat) (dst : Option Tmp) (l : List W) (bx : Nat → Option D) (mv fz : Nat → Bool) (f : U → Option A) (c : A → Option Ω) :
    callK cn i base dst l bx mv fz (fun u => (f u).bind c) = (callK cn i base dst l bx mv fz f).bind c := by
  unfold callK
  split
  · rfl
  · simp only
    split
    · rw [cn.ok, cn.ok, Option.bind_assoc]
    · rfl

theorem opC_nat {A : Type} (o : Oper) (i base : Nat) (ev : Operand → W) (bx : Nat → Option D) (mv fz : Nat → Bool) (f : U → Option A) (c : A → Option Ω) :
    opC K o i base ev bx mv fz (fun u => (f u).bind c) = (opC K o i base ev bx mv fz f).bind c := by
  unfold opC
  split
  · rfl
  · rfl
  · split
    · rw [br_bind]
    · rfl
  · split
    · split <;> rfl
    · rfl
  · split
    · split
      · split <;> rfl
      · rfl
    · rfl
  · split
    · split
      · exact buildK_nat _ _ _ _ _ _
      · rfl
    · rfl
  · split
    · split
      · rw [← elemsK_nat]
        congr 1
        funext xs ids
        split <;> rfl
      · rfl
    · rfl
  · split
    · split
      · split
        · rw [← getK_nat']
          congr 1
          funext y
          split <;> rfl
        · rfl
      · rfl
    · split <;> rfl
    · rfl
  · split
    · split
      · split
        · exact putK_nat _ _ _ _ _ _ _
        · rfl
      · rfl
    · rfl
  · split <;> rfl
  · exact opBin_nat _ _ _ _ _ _
  · exact opUn_nat _ _ _ _
  · split
    · exact opConv_nat _ _ _ _ _
    · rfl
  · split
    · split
      · rw [br_bind, br_bind, br_bind]; rfl
      · rfl
    · rfl
  · split
    · rfl
    · rw [← opSlice_nat]
      congr 1
      funext v ids rb
      split <;> rfl
  · split
    · split
      · split <;> rfl
      · rfl
    · split
      · exact getK_nat' _ _ _ _ _ _
      · rfl
    · rfl
  · split
    · split
      · exact getK_nat' _ _ _ _ _ _
      · rfl
    · rfl
  · split
    · split
      · rw [bnd_bind]
      · rfl
    · split
      · rw [br_bind, br_bind]; rfl
      · rfl
    · rfl
  · split
    · split
      · rw [bnd_bind]
      · rfl
    · rfl
  · split
    · split <;> rfl
    · rfl
  · split
    · split
      · split <;> rfl
      · rfl
    · split
      · split
        · split <;> rfl
        · rfl
      · rfl
    · split
      · split
        · split
          · split
            · split
              · split
                · rw [br_bind]; rfl
                · rfl
              · rfl
            · rfl
          · rfl
        · rfl
      · rfl
    · split
      · split
        · exact callK_nat _ _ _ _ _ _ _ _ _ _
        · rfl
      · rfl
    · rfl
  · rfl

end
end Go.Proofs.Ytlehbecajmjgkaa.V
