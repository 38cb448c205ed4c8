/- What each function asks and gives, in plain Lean; printed from the code. No condition. -/
import Derived.Test.YtaenggfmpagjgaaSp
namespace Go.Proofs.Ytaenggfmpagjgaa.Pl
open Go Go.RowKit
def F_in_ (n_ : Int) (low : Int) (high : Int) (K : Bool → Prop) : Prop :=
  ((decide (low ≤ n_)) = true →
    K (decide (n_ ≤ high))) ∧
  ((decide (low ≤ n_)) = false →
    K false)

def F_at_ (code : Int) (index : Int) (K : Fault → Prop) : Prop :=
  K (⟨code, index⟩ : Fault)

def F_has_L1 (l : List Int) (n_ : Int) (K : Bool → Prop) (i : Int) (I1 : Int → Prop) (μ1 : Int → Nat) : Prop :=
  ((decide (i < ((l.length : Nat) : Int))) = true →
    (inb l i) ∧
    (((gt l i) == n_) = true →
      K true) ∧
    (((gt l i) == n_) = false →
      I1 (IntKind.i64.wrap (i + 1)) ∧
  μ1 (IntKind.i64.wrap (i + 1)) < μ1 i)) ∧
  ((decide (i < ((l.length : Nat) : Int))) = false →
    K false)

def F_has (l : List Int) (n_ : Int) (K : Bool → Prop) : Prop :=
  ∃ (I1 : Int → Prop) (μ1 : Int → Nat), I1 0 ∧ ∀ (i : Int), I1 i → F_has_L1 l n_ K i I1 μ1

def F_numbers_L1 (a : List Int) (b : List Int) (K : Bool → Prop) (i : Int) (I1 : Int → Prop) (μ1 : Int → Nat) : Prop :=
  ((decide (i < ((a.length : Nat) : Int))) = true →
    (inb a i) ∧
    (inb b i) ∧
    (((gt a i) != (gt b i)) = true →
      K false) ∧
    (((gt a i) != (gt b i)) = false →
      I1 (IntKind.i64.wrap (i + 1)) ∧
  μ1 (IntKind.i64.wrap (i + 1)) < μ1 i)) ∧
  ((decide (i < ((a.length : Nat) : Int))) = false →
    K true)

def F_numbers (a : List Int) (b : List Int) (K : Bool → Prop) : Prop :=
  ((((a.length : Nat) : Int) != ((b.length : Nat) : Int)) = true →
    K false) ∧
  ((((a.length : Nat) : Int) != ((b.length : Nat) : Int)) = false →
    ∃ (I1 : Int → Prop) (μ1 : Int → Nat), I1 0 ∧ ∀ (i : Int), I1 i → F_numbers_L1 a b K i I1 μ1)

def F_isNaN1 (x : Int) (K : Bool → Prop) : Prop :=
  K (x != x)

def F_compare (x : Int) (y : Int) (K : Int → Prop) : Prop :=
  ∀ r2 : Bool, r2 = (sp_isNaN1 x) →
  ∀ r3 : Bool, r3 = (sp_isNaN1 y) →
  ((r2) = true →
    ((r3) = true →
      K 0) ∧
    ((r3) = false →
      K (-1))) ∧
  ((r2) = false →
    ((r3) = true →
      K 1) ∧
    ((r3) = false →
      ((decide (x < y)) = true →
        K (-1)) ∧
      ((decide (x < y)) = false →
        ((decide (y < x)) = true →
          K 1) ∧
        ((decide (y < x)) = false →
          K 0))))

def F_cmpOr_L1 (vals : List Int) (K : Int → Prop) (t8 : Int) (I1 : Int → Prop) (μ1 : Int → Nat) : Prop :=
  ((decide (t8 < ((vals.length : Nat) : Int))) = true →
    (inb vals t8) ∧
    (((gt vals t8) != 0) = true →
      K (gt vals t8)) ∧
    (((gt vals t8) != 0) = false →
      I1 (IntKind.i64.wrap (t8 + 1)) ∧
  μ1 (IntKind.i64.wrap (t8 + 1)) < μ1 t8)) ∧
  ((decide (t8 < ((vals.length : Nat) : Int))) = false →
    K 0)

def F_cmpOr (vals : List Int) (K : Int → Prop) : Prop :=
  ∃ (I1 : Int → Prop) (μ1 : Int → Nat), I1 0 ∧ ∀ (t8 : Int), I1 t8 → F_cmpOr_L1 vals K t8 I1 μ1

def F_rank (h_ : Hap) (K : Int → Prop) : Prop :=
  ((h_.ending) = true →
    K 0) ∧
  ((h_.ending) = false →
    K 1)

def F_hcmp (a : Hap) (b : Hap) (K : Int → Prop) : Prop :=
  ∀ r2 : Int, r2 = (sp_compare a.time b.time) →
  ∀ r3 : Int, r3 = (sp_rank a) →
  ∀ r4 : Int, r4 = (sp_rank b) →
  ∀ r5 : Int, r5 = (sp_compare r3 r4) →
  ∀ r6 : Int, r6 = (sp_compare a.index b.index) →
  (pre_cmpOr ([r2, r5, r6] : List Int)) ∧
  ∀ r7 : Int, r7 = (sp_cmpOr ([r2, r5, r6] : List Int)) →
  K r7

def F_isNaN2 (x : Int) (K : Bool → Prop) : Prop :=
  K (x != x)

def F_less (x : Int) (y : Int) (K : Bool → Prop) : Prop :=
  ∀ r2 : Bool, r2 = (sp_isNaN1 x) →
  ((r2) = true →
    ∀ r3 : Bool, r3 = (sp_isNaN1 y) →
    ((!r3) = true →
      K true) ∧
    ((!r3) = false →
      K (decide (x < y)))) ∧
  ((r2) = false →
    K (decide (x < y)))

def F_bsearch_L1 (x : List Int) (target : Int) (K : (Int × Bool) → Prop) (i : Int) (j : Int) (I1 : Int → Int → Prop) (μ1 : Int → Int → Nat) : Prop :=
  ((decide (i < j)) = true →
    ∀ x2 : Int, x2 = (Int.fdiv (IntKind.u64.wrap (IntKind.i64.wrap (i + j))) (2 ^ (min ((1 : Int)).toNat (IntKind.bits .u64)))) →
    (inb x (IntKind.i64.wrap (x2))) ∧
    ∀ r2 : Bool, r2 = (sp_less (gt x (IntKind.i64.wrap (x2))) target) →
    ((r2) = true →
      I1 (IntKind.i64.wrap ((IntKind.i64.wrap (x2)) + 1)) j ∧
  μ1 (IntKind.i64.wrap ((IntKind.i64.wrap (x2)) + 1)) j < μ1 i j) ∧
    ((r2) = false →
      I1 i (IntKind.i64.wrap (x2)) ∧
  μ1 i (IntKind.i64.wrap (x2)) < μ1 i j)) ∧
  ((decide (i < j)) = false →
    ((decide (i < ((x.length : Nat) : Int))) = true →
      (inb x i) ∧
      (((gt x i) == target) = true →
        K (i, true)) ∧
      (((gt x i) == target) = false →
        ∀ r3 : Bool, r3 = (sp_isNaN1 (gt x i)) →
        ((r3) = true →
          ∀ r4 : Bool, r4 = (sp_isNaN1 target) →
          K (i, r4)) ∧
        ((r3) = false →
          K (i, false)))) ∧
    ((decide (i < ((x.length : Nat) : Int))) = false →
      K (i, false)))

def F_bsearch (x : List Int) (target : Int) (K : (Int × Bool) → Prop) : Prop :=
  ∃ (I1 : Int → Int → Prop) (μ1 : Int → Int → Nat), I1 0 ((x.length : Nat) : Int) ∧ ∀ (i : Int) (j : Int), I1 i j → F_bsearch_L1 x target K i j I1 μ1

def F_indexF_L1 (s_ : List Int) (pf : Int → Bool) (Df : Int → Prop) (K : Int → Prop) (t8 : Int) (I1 : Int → Prop) (μ1 : Int → Nat) : Prop :=
  ((decide (t8 < ((s_.length : Nat) : Int))) = true →
    (inb s_ t8) ∧
    (Df (gt s_ t8)) ∧
    ∀ r2 : Bool, r2 = (pf (gt s_ t8)) →
    ((r2) = true →
      K t8) ∧
    ((r2) = false →
      I1 (IntKind.i64.wrap (t8 + 1)) ∧
  μ1 (IntKind.i64.wrap (t8 + 1)) < μ1 t8)) ∧
  ((decide (t8 < ((s_.length : Nat) : Int))) = false →
    K (-1))

def F_indexF (s_ : List Int) (pf : Int → Bool) (Df : Int → Prop) (K : Int → Prop) : Prop :=
  ∃ (I1 : Int → Prop) (μ1 : Int → Nat), I1 0 ∧ ∀ (t8 : Int), I1 t8 → F_indexF_L1 s_ pf Df K t8 I1 μ1

def F_containsF (s_ : List Int) (pf : Int → Bool) (Df : Int → Prop) (K : Bool → Prop) : Prop :=
  (pre_any s_ pf Df) ∧
  ∀ r2 : Int, r2 = (sp_indexF s_ pf Df) →
  K (decide (0 ≤ r2))

def F_isSet_J1 (K : Bool → Prop) (t33 : Bool) (t9 : Int) (I1 : Int → Prop) (μ1 : Int → Nat) : Prop :=
  ((t33) = true →
    K false) ∧
  ((t33) = false →
    I1 (IntKind.i64.wrap (t9 + 1)) ∧
  μ1 (IntKind.i64.wrap (t9 + 1)) < μ1 t9)

def F_isSet_L1 (l : List Int) (n_ : Int) (K : Bool → Prop) (t9 : Int) (I1 : Int → Prop) (μ1 : Int → Nat) : Prop :=
  ((decide (t9 < ((l.length : Nat) : Int))) = true →
    (inb l t9) ∧
    ((decide ((gt l t9) < 0)) = true →
      F_isSet_J1 K true t9 I1 μ1) ∧
    ((decide ((gt l t9) < 0)) = false →
      ((decide (n_ ≤ (gt l t9))) = true →
        F_isSet_J1 K true t9 I1 μ1) ∧
      ((decide (n_ ≤ (gt l t9))) = false →
        ((decide (0 < t9)) = true →
          (inb l (IntKind.i64.wrap (t9 - 1))) ∧
          F_isSet_J1 K (decide ((gt l t9) ≤ (gt l (IntKind.i64.wrap (t9 - 1))))) t9 I1 μ1) ∧
        ((decide (0 < t9)) = false →
          F_isSet_J1 K false t9 I1 μ1)))) ∧
  ((decide (t9 < ((l.length : Nat) : Int))) = false →
    K true)

def F_isSet (l : List Int) (n_ : Int) (K : Bool → Prop) : Prop :=
  ∃ (I1 : Int → Prop) (μ1 : Int → Nat), I1 0 ∧ ∀ (t9 : Int), I1 t9 → F_isSet_L1 l n_ K t9 I1 μ1

def F_rIsSet_J1 (K : Bool → Prop) (t35 : Bool) (i : Int) (I1 : Int → Prop) (μ1 : Int → Nat) : Prop :=
  ((t35) = true →
    K false) ∧
  ((t35) = false →
    I1 (IntKind.i64.wrap (i + 1)) ∧
  μ1 (IntKind.i64.wrap (i + 1)) < μ1 i)

def F_rIsSet_L1 (l : List Int) (n_ : Int) (K : Bool → Prop) (i : Int) (I1 : Int → Prop) (μ1 : Int → Nat) : Prop :=
  ((decide (i < ((l.length : Nat) : Int))) = true →
    (inb l i) ∧
    ∀ r2 : Bool, r2 = (sp_in_ (gt l i) 0 (IntKind.i64.wrap (n_ - 1))) →
    ((!r2) = true →
      F_rIsSet_J1 K true i I1 μ1) ∧
    ((!r2) = false →
      ((decide (0 < i)) = true →
        (inb l (IntKind.i64.wrap (i - 1))) ∧
        F_rIsSet_J1 K (decide ((gt l i) ≤ (gt l (IntKind.i64.wrap (i - 1))))) i I1 μ1) ∧
      ((decide (0 < i)) = false →
        F_rIsSet_J1 K false i I1 μ1))) ∧
  ((decide (i < ((l.length : Nat) : Int))) = false →
    K true)

def F_rIsSet (l : List Int) (n_ : Int) (K : Bool → Prop) : Prop :=
  ∃ (I1 : Int → Prop) (μ1 : Int → Nat), I1 0 ∧ ∀ (i : Int), I1 i → F_rIsSet_L1 l n_ K i I1 μ1

def F_meets1 (x : Int) (x2 : List Int) (K : Bool → Prop) : Prop :=
  (pre_bsearch x2 x) ∧
  ∀ r2 : Int × Bool, r2 = (sp_bsearch x2 x) →
  K r2.2

def F_meets (a : List Int) (b : List Int) (K : Bool → Prop) : Prop :=
  (pre_any a (fun y_ : Int => sp_meets1 y_ b) (fun y_ : Int => pre_meets1 y_ b)) ∧
  ∀ r2 : Bool, r2 = (sp_any a (fun y_ : Int => sp_meets1 y_ b) (fun y_ : Int => pre_meets1 y_ b)) →
  K r2

def F_disjoint_L1 (a : List Int) (b : List Int) (K : Bool → Prop) (i : Int) (I1 : Int → Prop) (μ1 : Int → Nat) : Prop :=
  ((decide (i < ((a.length : Nat) : Int))) = true →
    (inb a i) ∧
    (pre_has b (gt a i)) ∧
    ∀ r2 : Bool, r2 = (sp_has b (gt a i)) →
    ((r2) = true →
      K false) ∧
    ((r2) = false →
      I1 (IntKind.i64.wrap (i + 1)) ∧
  μ1 (IntKind.i64.wrap (i + 1)) < μ1 i)) ∧
  ((decide (i < ((a.length : Nat) : Int))) = false →
    K true)

def F_disjoint (a : List Int) (b : List Int) (K : Bool → Prop) : Prop :=
  ∃ (I1 : Int → Prop) (μ1 : Int → Nat), I1 0 ∧ ∀ (i : Int), I1 i → F_disjoint_L1 a b K i I1 μ1

def F_operator_J2 (K : Int → Prop) (t32 : Bool) : Prop :=
  ((t32) = true →
    K 3) ∧
  ((t32) = false →
    K 0)

def F_operator_J1 (o : Operator) (K : Int → Prop) (t5 : Bool) : Prop :=
  ((t5) = true →
    K 5) ∧
  ((t5) = false →
    ((decide (o.cost < 0)) = true →
      F_operator_J2 K true) ∧
    ((decide (o.cost < 0)) = false →
      F_operator_J2 K (decide (100 < o.cost))))

def F_operator (o : Operator) (facts : Int) (K : Int → Prop) : Prop :=
  (pre_isSet o.pre facts) ∧
  ∀ r2 : Bool, r2 = (sp_isSet o.pre facts) →
  ((!r2) = true →
    F_operator_J1 o K true) ∧
  ((!r2) = false →
    (pre_isSet o.add facts) ∧
    ∀ r3 : Bool, r3 = (sp_isSet o.add facts) →
    ((!r3) = true →
      F_operator_J1 o K true) ∧
    ((!r3) = false →
      (pre_isSet o.del facts) ∧
      ∀ r4 : Bool, r4 = (sp_isSet o.del facts) →
      ((!r4) = true →
        F_operator_J1 o K true) ∧
      ((!r4) = false →
        (pre_meets o.add o.del) ∧
        ∀ r5 : Bool, r5 = (sp_meets o.add o.del) →
        F_operator_J1 o K r5)))

def F_validate_L1 (t : Task) (K : Fault → Prop) (t41 : Int) (I1 : Int → Prop) (μ1 : Int → Nat) : Prop :=
  ((decide (t41 < ((t.ops.length : Nat) : Int))) = true →
    (inb t.ops t41) ∧
    (pre_operator (gt t.ops t41) t.facts) ∧
    ∀ r4 : Int, r4 = (sp_operator (gt t.ops t41) t.facts) →
    ((r4 != 0) = true →
      K (⟨r4, t41⟩ : Fault)) ∧
    ((r4 != 0) = false →
      I1 (IntKind.i64.wrap (t41 + 1)) ∧
  μ1 (IntKind.i64.wrap (t41 + 1)) < μ1 t41)) ∧
  ((decide (t41 < ((t.ops.length : Nat) : Int))) = false →
    K (⟨0, 0⟩ : Fault))

def F_validate_J1 (t : Task) (K : Fault → Prop) (t6 : Bool) : Prop :=
  ((t6) = true →
    K (⟨3, (-1)⟩ : Fault)) ∧
  ((t6) = false →
    (pre_isSet t.init t.facts) ∧
    ∀ r2 : Bool, r2 = (sp_isSet t.init t.facts) →
    ((!r2) = true →
      K (⟨5, (-2)⟩ : Fault)) ∧
    ((!r2) = false →
      (pre_isSet t.goal t.facts) ∧
      ∀ r3 : Bool, r3 = (sp_isSet t.goal t.facts) →
      ((!r3) = true →
        K (⟨5, (-3)⟩ : Fault)) ∧
      ((!r3) = false →
        ((decide (40 < ((t.ops.length : Nat) : Int))) = true →
          K (⟨2, (-1)⟩ : Fault)) ∧
        ((decide (40 < ((t.ops.length : Nat) : Int))) = false →
          ∃ (I1 : Int → Prop) (μ1 : Int → Nat), I1 0 ∧ ∀ (t41 : Int), I1 t41 → F_validate_L1 t K t41 I1 μ1))))

def F_validate (t : Task) (K : Fault → Prop) : Prop :=
  ((decide (t.facts < 0)) = true →
    F_validate_J1 t K true) ∧
  ((decide (t.facts < 0)) = false →
    F_validate_J1 t K (decide (24 < t.facts)))

def F_steps_J1 (K : Fault → Prop) (t23 : Bool) (t13 : Int) (I1 : Int → Prop) (μ1 : Int → Nat) : Prop :=
  ((t23) = true →
    K (⟨3, (-6)⟩ : Fault)) ∧
  ((t23) = false →
    I1 (IntKind.i64.wrap (t13 + 1)) ∧
  μ1 (IntKind.i64.wrap (t13 + 1)) < μ1 t13)

def F_steps_L1 (operators : Int) (plan : List Int) (K : Fault → Prop) (t13 : Int) (I1 : Int → Prop) (μ1 : Int → Nat) : Prop :=
  ((decide (t13 < ((plan.length : Nat) : Int))) = true →
    (inb plan t13) ∧
    ((decide ((gt plan t13) < 0)) = true →
      F_steps_J1 K true t13 I1 μ1) ∧
    ((decide ((gt plan t13) < 0)) = false →
      F_steps_J1 K (decide (operators ≤ (gt plan t13))) t13 I1 μ1)) ∧
  ((decide (t13 < ((plan.length : Nat) : Int))) = false →
    K (⟨0, 0⟩ : Fault))

def F_steps (operators : Int) (plan : List Int) (K : Fault → Prop) : Prop :=
  ((decide (60 < ((plan.length : Nat) : Int))) = true →
    K (⟨2, (-5)⟩ : Fault)) ∧
  ((decide (60 < ((plan.length : Nat) : Int))) = false →
    ∃ (I1 : Int → Prop) (μ1 : Int → Nat), I1 0 ∧ ∀ (t13 : Int), I1 t13 → F_steps_L1 operators plan K t13 I1 μ1)

def F_planFault (t : Task) (plan : List Int) (K : Fault → Prop) : Prop :=
  ∀ r2 : Fault, r2 = (sp_validate t) →
  ((!((r2.code == 0) && (r2.index == 0))) = true →
    K r2) ∧
  ((!((r2.code == 0) && (r2.index == 0))) = false →
    (pre_steps ((t.ops.length : Nat) : Int) plan) ∧
    ∀ r3 : Fault, r3 = (sp_steps ((t.ops.length : Nat) : Int) plan) →
    K r3)

def F_subset_L1 (part : List Int) (l : List Int) (K : Bool → Prop) (i : Int) (I1 : Int → Prop) (μ1 : Int → Nat) : Prop :=
  ((decide (i < ((part.length : Nat) : Int))) = true →
    (inb part i) ∧
    (pre_has l (gt part i)) ∧
    ∀ r2 : Bool, r2 = (sp_has l (gt part i)) →
    ((!r2) = true →
      K false) ∧
    ((!r2) = false →
      I1 (IntKind.i64.wrap (i + 1)) ∧
  μ1 (IntKind.i64.wrap (i + 1)) < μ1 i)) ∧
  ((decide (i < ((part.length : Nat) : Int))) = false →
    K true)

def F_subset (part : List Int) (l : List Int) (K : Bool → Prop) : Prop :=
  ∃ (I1 : Int → Prop) (μ1 : Int → Nat), I1 0 ∧ ∀ (i : Int), I1 i → F_subset_L1 part l K i I1 μ1

def F_clone (s_ : List Int) (K : (List Int) → Prop) : Prop :=
  (s_ = [] → 
    K ([] : List Int)) ∧
  (room ((([] : List Int) ++ s_)).length 8) ∧
  K (([] : List Int) ++ s_)

def F_update_J1 (out : List Int) (t14 : Int) (I1 : Int → (List Int) → Prop) (μ1 : Int → (List Int) → Nat) (out3 : List Int) : Prop :=
  I1 (IntKind.i64.wrap (t14 + 1)) out3 ∧
  μ1 (IntKind.i64.wrap (t14 + 1)) out3 < μ1 t14 out

def F_update_L1 (s_ : List Int) (add : List Int) (del : List Int) (K : (List Int) → Prop) (out : List Int) (t14 : Int) (I1 : Int → (List Int) → Prop) (μ1 : Int → (List Int) → Nat) : Prop :=
  ((decide (t14 < ((s_.length : Nat) : Int))) = true →
    (inb s_ t14) ∧
    (pre_bsearch del (gt s_ t14)) ∧
    ∀ r2 : Int × Bool, r2 = (sp_bsearch del (gt s_ t14)) →
    ((!r2.2) = true →
      (room ((out ++ ([(gt s_ t14)] : List Int))).length 8) ∧
      F_update_J1 out t14 I1 μ1 (out ++ ([(gt s_ t14)] : List Int))) ∧
    ((!r2.2) = false →
      F_update_J1 out t14 I1 μ1 out)) ∧
  ((decide (t14 < ((s_.length : Nat) : Int))) = false →
    (room ((out ++ add)).length 8) ∧
    (pre_sort (out ++ add)) ∧
    ∀ r3 : List Int, r3 = (sp_sort (out ++ add)) →
    (pre_compact r3) ∧
    ∀ r4 : List Int, r4 = (sp_compact r3) →
    K r4)

def F_update (s_ : List Int) (add : List Int) (del : List Int) (K : (List Int) → Prop) : Prop :=
  ∃ (I1 : Int → (List Int) → Prop) (μ1 : Int → (List Int) → Nat), I1 0 ([] : List Int) ∧ ∀ (t14 : Int) (out : List Int), I1 t14 out → F_update_L1 s_ add del K out t14 I1 μ1

def F_contains2_J2 (K : Bool → Prop) (i : Int) (t39 : Bool) (t10 : Int) (i3 : Int) (I1 : Int → Int → Prop) (μ1 : Int → Int → Nat) : Prop :=
  ((t39) = true →
    K false) ∧
  ((t39) = false →
    I1 i3 (IntKind.i64.wrap (t10 + 1)) ∧
  μ1 i3 (IntKind.i64.wrap (t10 + 1)) < μ1 i t10)

def F_contains2_J1 (s_ : List Int) (part : List Int) (K : Bool → Prop) (t25 : Bool) (i : Int) (I2 : Int → Prop) (μ2 : Int → Nat) (t10 : Int) (i3 : Int) (I1 : Int → Int → Prop) (μ1 : Int → Int → Nat) : Prop :=
  ((t25) = true →
    I2 (IntKind.i64.wrap (i3 + 1)) ∧
  μ2 (IntKind.i64.wrap (i3 + 1)) < μ2 i3) ∧
  ((t25) = false →
    ((i3 == ((s_.length : Nat) : Int)) = true →
      F_contains2_J2 K i true t10 i3 I1 μ1) ∧
    ((i3 == ((s_.length : Nat) : Int)) = false →
      (inb s_ i3) ∧
      F_contains2_J2 K i ((gt s_ i3) != (gt part t10)) t10 i3 I1 μ1))

def F_contains2_L2 (s_ : List Int) (part : List Int) (K : Bool → Prop) (i : Int) (I2 : Int → Prop) (μ2 : Int → Nat) (t10 : Int) (i3 : Int) (I1 : Int → Int → Prop) (μ1 : Int → Int → Nat) : Prop :=
  ((decide (i3 < ((s_.length : Nat) : Int))) = true →
    (inb s_ i3) ∧
    F_contains2_J1 s_ part K (decide ((gt s_ i3) < (gt part t10))) i I2 μ2 t10 i3 I1 μ1) ∧
  ((decide (i3 < ((s_.length : Nat) : Int))) = false →
    F_contains2_J1 s_ part K false i I2 μ2 t10 i3 I1 μ1)

def F_contains2_L1 (s_ : List Int) (part : List Int) (K : Bool → Prop) (i : Int) (t10 : Int) (I1 : Int → Int → Prop) (μ1 : Int → Int → Nat) : Prop :=
  ((decide (t10 < ((part.length : Nat) : Int))) = true →
    (inb part t10) ∧
    ∃ (I2 : Int → Prop) (μ2 : Int → Nat), I2 i ∧ ∀ (i3 : Int), I2 i3 → F_contains2_L2 s_ part K i I2 μ2 t10 i3 I1 μ1) ∧
  ((decide (t10 < ((part.length : Nat) : Int))) = false →
    K true)

def F_contains2 (s_ : List Int) (part : List Int) (K : Bool → Prop) : Prop :=
  ∃ (I1 : Int → Int → Prop) (μ1 : Int → Int → Nat), I1 0 0 ∧ ∀ (i : Int) (t10 : Int), I1 i t10 → F_contains2_L1 s_ part K i t10 I1 μ1

def F_can (t : Task) (s_ : List Int) (op : Int) (K : Bool → Prop) : Prop :=
  (inb t.ops op) ∧
  (pre_contains2 s_ ((gt t.ops op).pre)) ∧
  ∀ r2 : Bool, r2 = (sp_contains2 s_ ((gt t.ops op).pre)) →
  K r2

def F_next (t : Task) (s_ : List Int) (op : Int) (K : (List Int) → Prop) : Prop :=
  (inb t.ops op) ∧
  (pre_update s_ ((gt t.ops op).add) ((gt t.ops op).del)) ∧
  ∀ r2 : List Int, r2 = (sp_update s_ ((gt t.ops op).add) ((gt t.ops op).del)) →
  K r2

def F_srun_L1 (t : Task) (plan : List Int) (K : (List (List Int)) → Prop) (s_2 : List Int) (t15 : Int) (out : List (List Int)) (I1 : (List Int) → Int → (List (List Int)) → Prop) (μ1 : (List Int) → Int → (List (List Int)) → Nat) : Prop :=
  ((decide (t15 < ((plan.length : Nat) : Int))) = true →
    (inb plan t15) ∧
    (pre_can t s_2 (gt plan t15)) ∧
    ∀ r3 : Bool, r3 = (sp_applies t s_2 (gt plan t15)) →
    ((!r3) = true →
      K out) ∧
    ((!r3) = false →
      (pre_next t s_2 (gt plan t15)) ∧
      ∀ r4 : List Int, r4 = (sp_after t s_2 (gt plan t15)) →
      (room ((out ++ ([r4] : List (List Int)))).length 24) ∧
      I1 r4 (IntKind.i64.wrap (t15 + 1)) (out ++ ([r4] : List (List Int))) ∧
  μ1 r4 (IntKind.i64.wrap (t15 + 1)) (out ++ ([r4] : List (List Int))) < μ1 s_2 t15 out)) ∧
  ((decide (t15 < ((plan.length : Nat) : Int))) = false →
    K out)

def F_srun (t : Task) (s_ : List Int) (plan : List Int) (K : (List (List Int)) → Prop) : Prop :=
  (pre_clone s_) ∧
  ∀ r2 : List Int, r2 = (sp_clone s_) →
  ∃ (I1 : (List Int) → Int → (List (List Int)) → Prop) (μ1 : (List Int) → Int → (List (List Int)) → Nat), I1 s_ 0 ([r2] : List (List Int)) ∧ ∀ (s_2 : List Int) (t15 : Int) (out : List (List Int)), I1 s_2 t15 out → F_srun_L1 t plan K s_2 t15 out I1 μ1

def F_works (t : Task) (s_ : List Int) (plan : List Int) (K : Bool → Prop) : Prop :=
  (pre_srun t s_ plan) ∧
  ∀ r2 : List (List Int), r2 = (sp_srun t s_ plan) →
  ∀ x : Bool, x = (((r2.length : Nat) : Int) == (IntKind.i64.wrap (((plan.length : Nat) : Int) + 1))) →
  ((x) = true →
    (inb r2 ((plan.length : Nat) : Int)) ∧
    (pre_contains2 (gt r2 ((plan.length : Nat) : Int)) t.goal) ∧
    ∀ r3 : Bool, r3 = (sp_contains2 (gt r2 ((plan.length : Nat) : Int)) t.goal) →
    K r3) ∧
  ((x) = false →
    K false)

def F_solves (t : Task) (plan : List Int) (K : (Bool × Fault) → Prop) : Prop :=
  ∀ r2 : Fault, r2 = (sp_planFault t plan) →
  ((!((r2.code == 0) && (r2.index == 0))) = true →
    K (false, r2)) ∧
  ((!((r2.code == 0) && (r2.index == 0))) = false →
    (pre_works t t.init plan) ∧
    ∀ r3 : Bool, r3 = (sp_rworks t t.init plan) →
    K (r3, (⟨0, 0⟩ : Fault)))

def F_changed_J1 (out : List Int) (p : Int) (I1 : Int → (List Int) → Prop) (μ1 : Int → (List Int) → Nat) (out3 : List Int) : Prop :=
  I1 (IntKind.i64.wrap (p + 1)) out3 ∧
  μ1 (IntKind.i64.wrap (p + 1)) out3 < μ1 p out

def F_changed_J2 (t29 : Bool) (out : List Int) (p : Int) (I1 : Int → (List Int) → Prop) (μ1 : Int → (List Int) → Nat) : Prop :=
  ((t29) = true →
    (room ((out ++ ([p] : List Int))).length 8) ∧
    F_changed_J1 out p I1 μ1 (out ++ ([p] : List Int))) ∧
  ((t29) = false →
    F_changed_J1 out p I1 μ1 out)

def F_changed_L1 (facts : Int) (s_ : List Int) (add : List Int) (del : List Int) (K : (List Int) → Prop) (out : List Int) (p : Int) (I1 : Int → (List Int) → Prop) (μ1 : Int → (List Int) → Nat) : Prop :=
  ((decide (p < facts)) = true →
    (pre_has add p) ∧
    ∀ r2 : Bool, r2 = (sp_has add p) →
    ((r2) = true →
      F_changed_J2 true out p I1 μ1) ∧
    ((r2) = false →
      (pre_has s_ p) ∧
      ∀ r3 : Bool, r3 = (sp_has s_ p) →
      ((r3) = true →
        (pre_has del p) ∧
        ∀ r4 : Bool, r4 = (sp_has del p) →
        F_changed_J2 (!r4) out p I1 μ1) ∧
      ((r3) = false →
        F_changed_J2 false out p I1 μ1))) ∧
  ((decide (p < facts)) = false →
    K out)

def F_changed (facts : Int) (s_ : List Int) (add : List Int) (del : List Int) (K : (List Int) → Prop) : Prop :=
  ∃ (I1 : Int → (List Int) → Prop) (μ1 : Int → (List Int) → Nat), I1 0 ([] : List Int) ∧ ∀ (p : Int) (out : List Int), I1 p out → F_changed_L1 facts s_ add del K out p I1 μ1

def F_minus (a : List Int) (b : List Int) (K : (List Int) → Prop) : Prop :=
  (pre_update a [] b) ∧
  ∀ r2 : List Int, r2 = (sp_update a [] b) →
  K r2

def F_union (a : List Int) (b : List Int) (K : (List Int) → Prop) : Prop :=
  (pre_update a b []) ∧
  ∀ r2 : List Int, r2 = (sp_update a b []) →
  K r2

def F_tcode_J2 (K : Int → Prop) (t45 : Bool) : Prop :=
  ((t45) = true →
    K 3) ∧
  ((t45) = false →
    K 0)

def F_tcode_J1 (o : TOp) (K : Int → Prop) (t32 : Bool) : Prop :=
  ((t32) = true →
    K 5) ∧
  ((t32) = false →
    ((decide (o.dur < 1)) = true →
      F_tcode_J2 K true) ∧
    ((decide (o.dur < 1)) = false →
      F_tcode_J2 K (decide (1000 < o.dur))))

def F_tcode_L1 (o : TOp) (facts : Int) (K : Int → Prop) (x : Int) (t23 : Int) (I1 : Int → Prop) (μ1 : Int → Nat) : Prop :=
  ((decide (t23 < x)) = true →
    (inb ([o.atStart, o.over, o.atEnd, o.addStart, o.delStart, o.addEnd, o.delEnd] : List (List Int)) t23) ∧
    (pre_isSet (gt ([o.atStart, o.over, o.atEnd, o.addStart, o.delStart, o.addEnd, o.delEnd] : List (List Int)) t23) facts) ∧
    ∀ r2 : Bool, r2 = (sp_isSet (gt ([o.atStart, o.over, o.atEnd, o.addStart, o.delStart, o.addEnd, o.delEnd] : List (List Int)) t23) facts) →
    ((!r2) = true →
      K 5) ∧
    ((!r2) = false →
      I1 (IntKind.i64.wrap (t23 + 1)) ∧
  μ1 (IntKind.i64.wrap (t23 + 1)) < μ1 t23)) ∧
  ((decide (t23 < x)) = false →
    (pre_meets o.addStart o.delStart) ∧
    ∀ r3 : Bool, r3 = (sp_meets o.addStart o.delStart) →
    ((r3) = true →
      F_tcode_J1 o K true) ∧
    ((r3) = false →
      (pre_meets o.addEnd o.delEnd) ∧
      ∀ r4 : Bool, r4 = (sp_meets o.addEnd o.delEnd) →
      F_tcode_J1 o K r4))

def F_tcode (o : TOp) (facts : Int) (K : Int → Prop) : Prop :=
  ∀ x : Int, x = ((([o.atStart, o.over, o.atEnd, o.addStart, o.delStart, o.addEnd, o.delEnd] : List (List Int)).length : Nat) : Int) →
  ∃ (I1 : Int → Prop) (μ1 : Int → Nat), I1 0 ∧ ∀ (t23 : Int), I1 t23 → F_tcode_L1 o facts K x t23 I1 μ1

def F_tvalidate_L1 (t : TTask) (K : Fault → Prop) (t41 : Int) (I1 : Int → Prop) (μ1 : Int → Nat) : Prop :=
  ((decide (t41 < ((t.ops.length : Nat) : Int))) = true →
    (inb t.ops t41) ∧
    (pre_tcode (gt t.ops t41) t.facts) ∧
    ∀ r4 : Int, r4 = (sp_tcode (gt t.ops t41) t.facts) →
    ((r4 != 0) = true →
      K (⟨r4, t41⟩ : Fault)) ∧
    ((r4 != 0) = false →
      I1 (IntKind.i64.wrap (t41 + 1)) ∧
  μ1 (IntKind.i64.wrap (t41 + 1)) < μ1 t41)) ∧
  ((decide (t41 < ((t.ops.length : Nat) : Int))) = false →
    K (⟨0, 0⟩ : Fault))

def F_tvalidate_J1 (t : TTask) (K : Fault → Prop) (t6 : Bool) : Prop :=
  ((t6) = true →
    K (⟨3, (-1)⟩ : Fault)) ∧
  ((t6) = false →
    (pre_isSet t.init t.facts) ∧
    ∀ r2 : Bool, r2 = (sp_isSet t.init t.facts) →
    ((!r2) = true →
      K (⟨5, (-2)⟩ : Fault)) ∧
    ((!r2) = false →
      (pre_isSet t.goal t.facts) ∧
      ∀ r3 : Bool, r3 = (sp_isSet t.goal t.facts) →
      ((!r3) = true →
        K (⟨5, (-3)⟩ : Fault)) ∧
      ((!r3) = false →
        ((decide (40 < ((t.ops.length : Nat) : Int))) = true →
          K (⟨2, (-1)⟩ : Fault)) ∧
        ((decide (40 < ((t.ops.length : Nat) : Int))) = false →
          ∃ (I1 : Int → Prop) (μ1 : Int → Nat), I1 0 ∧ ∀ (t41 : Int), I1 t41 → F_tvalidate_L1 t K t41 I1 μ1))))

def F_tvalidate (t : TTask) (K : Fault → Prop) : Prop :=
  ((decide (t.facts < 0)) = true →
    F_tvalidate_J1 t K true) ∧
  ((decide (t.facts < 0)) = false →
    F_tvalidate_J1 t K (decide (23 < t.facts)))

def F_timedFault_J1 (t : TTask) (K : Fault → Prop) (t106 : Bool) (i : Int) (I1 : Int → Prop) (μ1 : Int → Nat) : Prop :=
  ((t106) = true →
    ∀ r9 : Fault, r9 = (sp_at_ 5 i) →
    K r9) ∧
  ((t106) = false →
    ∀ r10 : Bool, r10 = (sp_in_ ((gt t.ops i).dur) 1 1000) →
    ((!r10) = true →
      ∀ r11 : Fault, r11 = (sp_at_ 3 i) →
      K r11) ∧
    ((!r10) = false →
      I1 (IntKind.i64.wrap (i + 1)) ∧
  μ1 (IntKind.i64.wrap (i + 1)) < μ1 i))

def F_timedFault_L1 (t : TTask) (K : Fault → Prop) (i : Int) (I1 : Int → Prop) (μ1 : Int → Nat) : Prop :=
  ((decide (i < ((t.ops.length : Nat) : Int))) = true →
    (inb t.ops i) ∧
    (pre_isSet ((gt t.ops i).atStart) t.facts) ∧
    ∀ r12 : Bool, r12 = (sp_isSet ((gt t.ops i).atStart) t.facts) →
    ((!r12) = true →
      F_timedFault_J1 t K true i I1 μ1) ∧
    ((!r12) = false →
      (pre_isSet ((gt t.ops i).over) t.facts) ∧
      ∀ r13 : Bool, r13 = (sp_isSet ((gt t.ops i).over) t.facts) →
      ((!r13) = true →
        F_timedFault_J1 t K true i I1 μ1) ∧
      ((!r13) = false →
        (pre_isSet ((gt t.ops i).atEnd) t.facts) ∧
        ∀ r14 : Bool, r14 = (sp_isSet ((gt t.ops i).atEnd) t.facts) →
        ((!r14) = true →
          F_timedFault_J1 t K true i I1 μ1) ∧
        ((!r14) = false →
          (pre_isSet ((gt t.ops i).addStart) t.facts) ∧
          ∀ r15 : Bool, r15 = (sp_isSet ((gt t.ops i).addStart) t.facts) →
          ((!r15) = true →
            F_timedFault_J1 t K true i I1 μ1) ∧
          ((!r15) = false →
            (pre_isSet ((gt t.ops i).delStart) t.facts) ∧
            ∀ r16 : Bool, r16 = (sp_isSet ((gt t.ops i).delStart) t.facts) →
            ((!r16) = true →
              F_timedFault_J1 t K true i I1 μ1) ∧
            ((!r16) = false →
              (pre_isSet ((gt t.ops i).addEnd) t.facts) ∧
              ∀ r17 : Bool, r17 = (sp_isSet ((gt t.ops i).addEnd) t.facts) →
              ((!r17) = true →
                F_timedFault_J1 t K true i I1 μ1) ∧
              ((!r17) = false →
                (pre_isSet ((gt t.ops i).delEnd) t.facts) ∧
                ∀ r18 : Bool, r18 = (sp_isSet ((gt t.ops i).delEnd) t.facts) →
                ((!r18) = true →
                  F_timedFault_J1 t K true i I1 μ1) ∧
                ((!r18) = false →
                  (pre_disjoint ((gt t.ops i).addStart) ((gt t.ops i).delStart)) ∧
                  ∀ r19 : Bool, r19 = (sp_disjoint ((gt t.ops i).addStart) ((gt t.ops i).delStart)) →
                  ((!r19) = true →
                    F_timedFault_J1 t K true i I1 μ1) ∧
                  ((!r19) = false →
                    (pre_disjoint ((gt t.ops i).addEnd) ((gt t.ops i).delEnd)) ∧
                    ∀ r20 : Bool, r20 = (sp_disjoint ((gt t.ops i).addEnd) ((gt t.ops i).delEnd)) →
                    F_timedFault_J1 t K (!r20) i I1 μ1))))))))) ∧
  ((decide (i < ((t.ops.length : Nat) : Int))) = false →
    K (⟨0, 0⟩ : Fault))

def F_timedFault (t : TTask) (K : Fault → Prop) : Prop :=
  ∀ r2 : Bool, r2 = (sp_in_ t.facts 0 23) →
  ((!r2) = true →
    ∀ r3 : Fault, r3 = (sp_at_ 3 (-1)) →
    K r3) ∧
  ((!r2) = false →
    (pre_isSet t.init t.facts) ∧
    ∀ r4 : Bool, r4 = (sp_isSet t.init t.facts) →
    ((!r4) = true →
      ∀ r5 : Fault, r5 = (sp_at_ 5 (-2)) →
      K r5) ∧
    ((!r4) = false →
      (pre_isSet t.goal t.facts) ∧
      ∀ r6 : Bool, r6 = (sp_isSet t.goal t.facts) →
      ((!r6) = true →
        ∀ r7 : Fault, r7 = (sp_at_ 5 (-3)) →
        K r7) ∧
      ((!r6) = false →
        ((decide (40 < ((t.ops.length : Nat) : Int))) = true →
          ∀ r8 : Fault, r8 = (sp_at_ 2 (-1)) →
          K r8) ∧
        ((decide (40 < ((t.ops.length : Nat) : Int))) = false →
          ∃ (I1 : Int → Prop) (μ1 : Int → Nat), I1 0 ∧ ∀ (i : Int), I1 i → F_timedFault_L1 t K i I1 μ1))))

def F_scheduleFault_J1 (K : Fault → Prop) (t45 : Bool) (t20 : Int) (I1 : Int → Prop) (μ1 : Int → Nat) : Prop :=
  ((t45) = true →
    K (⟨3, IntKind.i64.wrap ((-6) - t20)⟩ : Fault)) ∧
  ((t45) = false →
    I1 (IntKind.i64.wrap (t20 + 1)) ∧
  μ1 (IntKind.i64.wrap (t20 + 1)) < μ1 t20)

def F_scheduleFault_L1 (t : TTask) (l : List Occ) (K : Fault → Prop) (t20 : Int) (I1 : Int → Prop) (μ1 : Int → Nat) : Prop :=
  ((decide (t20 < ((l.length : Nat) : Int))) = true →
    (inb l t20) ∧
    ((decide (((gt l t20).op) < 0)) = true →
      F_scheduleFault_J1 K true t20 I1 μ1) ∧
    ((decide (((gt l t20).op) < 0)) = false →
      ((decide (((t.ops.length : Nat) : Int) ≤ ((gt l t20).op))) = true →
        F_scheduleFault_J1 K true t20 I1 μ1) ∧
      ((decide (((t.ops.length : Nat) : Int) ≤ ((gt l t20).op))) = false →
        ((decide (((gt l t20).start) < 0)) = true →
          F_scheduleFault_J1 K true t20 I1 μ1) ∧
        ((decide (((gt l t20).start) < 0)) = false →
          F_scheduleFault_J1 K (decide (1000000 < ((gt l t20).start))) t20 I1 μ1)))) ∧
  ((decide (t20 < ((l.length : Nat) : Int))) = false →
    K (⟨0, 0⟩ : Fault))

def F_scheduleFault (t : TTask) (l : List Occ) (K : Fault → Prop) : Prop :=
  ∀ r2 : Fault, r2 = (sp_tvalidate t) →
  ((!((r2.code == 0) && (r2.index == 0))) = true →
    K r2) ∧
  ((!((r2.code == 0) && (r2.index == 0))) = false →
    ((decide (12 < ((l.length : Nat) : Int))) = true →
      K (⟨2, (-5)⟩ : Fault)) ∧
    ((decide (12 < ((l.length : Nat) : Int))) = false →
      ∃ (I1 : Int → Prop) (μ1 : Int → Nat), I1 0 ∧ ∀ (t20 : Int), I1 t20 → F_scheduleFault_L1 t l K t20 I1 μ1))

def F_occurFault_J1 (K : Fault → Prop) (t42 : Bool) (i : Int) (I1 : Int → Prop) (μ1 : Int → Nat) : Prop :=
  ((t42) = true →
    ∀ r4 : Fault, r4 = (sp_at_ 3 (IntKind.i64.wrap ((-6) - i))) →
    K r4) ∧
  ((t42) = false →
    I1 (IntKind.i64.wrap (i + 1)) ∧
  μ1 (IntKind.i64.wrap (i + 1)) < μ1 i)

def F_occurFault_L1 (t : TTask) (l : List Occ) (K : Fault → Prop) (i : Int) (I1 : Int → Prop) (μ1 : Int → Nat) : Prop :=
  ((decide (i < ((l.length : Nat) : Int))) = true →
    (inb l i) ∧
    ∀ r5 : Bool, r5 = (sp_in_ ((gt l i).op) 0 (IntKind.i64.wrap (((t.ops.length : Nat) : Int) - 1))) →
    ((!r5) = true →
      F_occurFault_J1 K true i I1 μ1) ∧
    ((!r5) = false →
      ∀ r6 : Bool, r6 = (sp_in_ ((gt l i).start) 0 1000000) →
      F_occurFault_J1 K (!r6) i I1 μ1)) ∧
  ((decide (i < ((l.length : Nat) : Int))) = false →
    K (⟨0, 0⟩ : Fault))

def F_occurFault (t : TTask) (l : List Occ) (K : Fault → Prop) : Prop :=
  ∀ r2 : Fault, r2 = (sp_tvalidate t) →
  ((r2.code != 0) = true →
    K r2) ∧
  ((r2.code != 0) = false →
    ((decide (12 < ((l.length : Nat) : Int))) = true →
      ∀ r3 : Fault, r3 = (sp_at_ 2 (-5)) →
      K r3) ∧
    ((decide (12 < ((l.length : Nat) : Int))) = false →
      ∃ (I1 : Int → Prop) (μ1 : Int → Nat), I1 0 ∧ ∀ (i : Int), I1 i → F_occurFault_L1 t l K i I1 μ1))

def F_happenings_L1 (t : TTask) (l : List Occ) (K : (List Hap) → Prop) (t11 : Int) (out : List Hap) (I1 : Int → (List Hap) → Prop) (μ1 : Int → (List Hap) → Nat) : Prop :=
  ((decide (t11 < ((l.length : Nat) : Int))) = true →
    (inb l t11) ∧
    (inb t.ops ((gt l t11).op)) ∧
    (room ((out ++ ([(⟨(gt l t11).start, t11, false⟩ : Hap), (⟨IntKind.i64.wrap (((gt l t11).start) + ((gt t.ops ((gt l t11).op)).dur)), t11, true⟩ : Hap)] : List Hap))).length 24) ∧
    I1 (IntKind.i64.wrap (t11 + 1)) (out ++ ([(⟨(gt l t11).start, t11, false⟩ : Hap), (⟨IntKind.i64.wrap (((gt l t11).start) + ((gt t.ops ((gt l t11).op)).dur)), t11, true⟩ : Hap)] : List Hap)) ∧
  μ1 (IntKind.i64.wrap (t11 + 1)) (out ++ ([(⟨(gt l t11).start, t11, false⟩ : Hap), (⟨IntKind.i64.wrap (((gt l t11).start) + ((gt t.ops ((gt l t11).op)).dur)), t11, true⟩ : Hap)] : List Hap)) < μ1 t11 out) ∧
  ((decide (t11 < ((l.length : Nat) : Int))) = false →
    (pre_sortHap out) ∧
    ∀ r2 : List Hap, r2 = (sp_sortHap out) →
    K r2)

def F_happenings (t : TTask) (l : List Occ) (K : (List Hap) → Prop) : Prop :=
  ∃ (I1 : Int → (List Hap) → Prop) (μ1 : Int → (List Hap) → Nat), I1 0 ([] : List Hap) ∧ ∀ (t11 : Int) (out : List Hap), I1 t11 out → F_happenings_L1 t l K t11 out I1 μ1

def F_tcheck_J2 (K : (Int × Bool × Fault) → Prop) (t103 : Bool) (t83 : Int) (I2 : Int → Prop) (μ2 : Int → Nat) : Prop :=
  ((t103) = true →
    K (0, false, (⟨0, 0⟩ : Fault))) ∧
  ((t103) = false →
    I2 (IntKind.i64.wrap (t83 + 1)) ∧
  μ2 (IntKind.i64.wrap (t83 + 1)) < μ2 t83)

def F_tcheck_L2 (t : TTask) (l : List Occ) (K : (Int × Bool × Fault) → Prop) (r3 : List Hap) (r5 : List Int) (d : List Bool) (t83 : Int) (I2 : Int → Prop) (μ2 : Int → Nat) (s_ : List Int) (last : Int) (t35 : Int) (running : List Bool) (I1 : (List Int) → Int → Int → (List Bool) → Prop) (μ1 : (List Int) → Int → Int → (List Bool) → Nat) : Prop :=
  ((decide (t83 < (((((l.length : Nat) : Int)).toNat : Nat) : Int))) = true →
    (inb d t83) ∧
    (((gt d t83)) = true →
      (inb l t83) ∧
      (inb t.ops ((gt l t83).op)) ∧
      (pre_contains2 r5 ((gt t.ops ((gt l t83).op)).over)) ∧
      ∀ r6 : Bool, r6 = (sp_contains2 r5 ((gt t.ops ((gt l t83).op)).over)) →
      F_tcheck_J2 K (!r6) t83 I2 μ2) ∧
    (((gt d t83)) = false →
      F_tcheck_J2 K false t83 I2 μ2)) ∧
  ((decide (t83 < (((((l.length : Nat) : Int)).toNat : Nat) : Int))) = false →
    I1 r5 ((gt r3 t35).time) (IntKind.i64.wrap (t35 + 1)) d ∧
  μ1 r5 ((gt r3 t35).time) (IntKind.i64.wrap (t35 + 1)) d < μ1 s_ last t35 running)

def F_tcheck_J1 (t : TTask) (l : List Occ) (K : (Int × Bool × Fault) → Prop) (r3 : List Hap) (pre : List Int) (add : List Int) (del : List Int) (s_ : List Int) (last : Int) (t35 : Int) (running : List Bool) (I1 : (List Int) → Int → Int → (List Bool) → Prop) (μ1 : (List Int) → Int → Int → (List Bool) → Nat) : Prop :=
  (pre_contains2 s_ pre) ∧
  ∀ r4 : Bool, r4 = (sp_contains2 s_ pre) →
  ((!r4) = true →
    K (0, false, (⟨0, 0⟩ : Fault))) ∧
  ((!r4) = false →
    (pre_update s_ add del) ∧
    ∀ r5 : List Int, r5 = (sp_update s_ add del) →
    (inb running ((gt r3 t35).index)) ∧
    ∀ d : List Bool, d = (running.set ((gt r3 t35).index).toNat (!((gt r3 t35).ending))) →
    ∃ (I2 : Int → Prop) (μ2 : Int → Nat), I2 0 ∧ ∀ (t83 : Int), I2 t83 → F_tcheck_L2 t l K r3 r5 d t83 I2 μ2 s_ last t35 running I1 μ1)

def F_tcheck_L1 (t : TTask) (l : List Occ) (K : (Int × Bool × Fault) → Prop) (r3 : List Hap) (s_ : List Int) (last : Int) (t35 : Int) (running : List Bool) (I1 : (List Int) → Int → Int → (List Bool) → Prop) (μ1 : (List Int) → Int → Int → (List Bool) → Nat) : Prop :=
  ((decide (t35 < ((r3.length : Nat) : Int))) = true →
    (inb r3 t35) ∧
    (inb l ((gt r3 t35).index)) ∧
    (inb t.ops ((gt l ((gt r3 t35).index)).op)) ∧
    (((gt r3 t35).ending) = true →
      F_tcheck_J1 t l K r3 ((gt t.ops ((gt l ((gt r3 t35).index)).op)).atEnd) ((gt t.ops ((gt l ((gt r3 t35).index)).op)).addEnd) ((gt t.ops ((gt l ((gt r3 t35).index)).op)).delEnd) s_ last t35 running I1 μ1) ∧
    (((gt r3 t35).ending) = false →
      F_tcheck_J1 t l K r3 ((gt t.ops ((gt l ((gt r3 t35).index)).op)).atStart) ((gt t.ops ((gt l ((gt r3 t35).index)).op)).addStart) ((gt t.ops ((gt l ((gt r3 t35).index)).op)).delStart) s_ last t35 running I1 μ1)) ∧
  ((decide (t35 < ((r3.length : Nat) : Int))) = false →
    (pre_contains2 s_ t.goal) ∧
    ∀ r7 : Bool, r7 = (sp_contains2 s_ t.goal) →
    ((!r7) = true →
      K (0, false, (⟨0, 0⟩ : Fault))) ∧
    ((!r7) = false →
      K (last, true, (⟨0, 0⟩ : Fault))))

def F_tcheck (t : TTask) (l : List Occ) (K : (Int × Bool × Fault) → Prop) : Prop :=
  ∀ r2 : Fault, r2 = (sp_scheduleFault t l) →
  ((!((r2.code == 0) && (r2.index == 0))) = true →
    K (0, false, r2)) ∧
  ((!((r2.code == 0) && (r2.index == 0))) = false →
    (mkok ((l.length : Nat) : Int) 1) ∧
    (pre_happenings t l) ∧
    ∀ r3 : List Hap, r3 = (sp_happenings t l) →
    ∃ (I1 : (List Int) → Int → Int → (List Bool) → Prop) (μ1 : (List Int) → Int → Int → (List Bool) → Nat), I1 t.init 0 0 (List.replicate (((l.length : Nat) : Int)).toNat (false : Bool)) ∧ ∀ (s_ : List Int) (last : Int) (t35 : Int) (running : List Bool), I1 s_ last t35 running → F_tcheck_L1 t l K r3 s_ last t35 running I1 μ1)

def F_timedR_J1 (next : Int) (when : Int) (i : Int) (I2 : Int → Int → Int → Prop) (μ2 : Int → Int → Int → Nat) (next3 : Int) (when3 : Int) : Prop :=
  I2 next3 when3 (IntKind.i64.wrap (i + 1)) ∧
  μ2 next3 when3 (IntKind.i64.wrap (i + 1)) < μ2 next when i

def F_timedR_J3 (x2 : Int) (t83 : Bool) (next : Int) (when : Int) (i : Int) (I2 : Int → Int → Int → Prop) (μ2 : Int → Int → Int → Nat) : Prop :=
  ((t83) = true →
    F_timedR_J1 next when i I2 μ2 i x2) ∧
  ((t83) = false →
    F_timedR_J1 next when i I2 μ2 next when)

def F_timedR_J2 (x2 : Int) (next : Int) (when : Int) (i : Int) (I2 : Int → Int → Int → Prop) (μ2 : Int → Int → Int → Nat) (phase : List Int) : Prop :=
  ((decide (next < 0)) = true →
    F_timedR_J3 x2 true next when i I2 μ2) ∧
  ((decide (next < 0)) = false →
    ((decide (x2 < when)) = true →
      F_timedR_J3 x2 true next when i I2 μ2) ∧
    ((decide (x2 < when)) = false →
      ((x2 == when) = true →
        (inb phase next) ∧
        F_timedR_J3 x2 (decide ((gt phase next) < (gt phase i))) next when i I2 μ2) ∧
      ((x2 == when) = false →
        F_timedR_J3 x2 false next when i I2 μ2)))

def F_timedR_J5 (K : (Int × Bool) → Prop) (t158 : Bool) (i3 : Int) (I3 : Int → Prop) (μ3 : Int → Nat) : Prop :=
  ((t158) = true →
    K (0, false)) ∧
  ((t158) = false →
    I3 (IntKind.i64.wrap (i3 + 1)) ∧
  μ3 (IntKind.i64.wrap (i3 + 1)) < μ3 i3)

def F_timedR_L3 (t : TTask) (l : List Occ) (K : (Int × Bool) → Prop) (when : Int) (s_ : List Int) (d : List Int) (i3 : Int) (I3 : Int → Prop) (μ3 : Int → Nat) (now : Int) (step : Int) (phase : List Int) (I1 : (List Int) → Int → Int → (List Int) → Prop) (μ1 : (List Int) → Int → Int → (List Int) → Nat) (s_3 : List Int) : Prop :=
  ((decide (i3 < ((l.length : Nat) : Int))) = true →
    (inb d i3) ∧
    (((gt d i3) == 1) = true →
      (inb l i3) ∧
      (inb t.ops ((gt l i3).op)) ∧
      (pre_subset ((gt t.ops ((gt l i3).op)).over) s_3) ∧
      ∀ r2 : Bool, r2 = (sp_subset ((gt t.ops ((gt l i3).op)).over) s_3) →
      F_timedR_J5 K (!r2) i3 I3 μ3) ∧
    (((gt d i3) == 1) = false →
      F_timedR_J5 K false i3 I3 μ3)) ∧
  ((decide (i3 < ((l.length : Nat) : Int))) = false →
    I1 s_3 when (IntKind.i64.wrap (step + 1)) d ∧
  μ1 s_3 when (IntKind.i64.wrap (step + 1)) d < μ1 s_ now step phase)

def F_timedR_J4 (t : TTask) (l : List Occ) (K : (Int × Bool) → Prop) (next : Int) (when : Int) (s_ : List Int) (now : Int) (step : Int) (phase : List Int) (I1 : (List Int) → Int → Int → (List Int) → Prop) (μ1 : (List Int) → Int → Int → (List Int) → Nat) (s_3 : List Int) : Prop :=
  ∀ d : List Int, d = (phase.set (next).toNat (IntKind.i64.wrap ((gt phase next) + 1))) →
  ∃ (I3 : Int → Prop) (μ3 : Int → Nat), I3 0 ∧ ∀ (i3 : Int), I3 i3 → F_timedR_L3 t l K when s_ d i3 I3 μ3 now step phase I1 μ1 s_3

def F_timedR_L2 (t : TTask) (l : List Occ) (K : (Int × Bool) → Prop) (next : Int) (when : Int) (i : Int) (I2 : Int → Int → Int → Prop) (μ2 : Int → Int → Int → Nat) (s_ : List Int) (now : Int) (step : Int) (phase : List Int) (I1 : (List Int) → Int → Int → (List Int) → Prop) (μ1 : (List Int) → Int → Int → (List Int) → Nat) : Prop :=
  ((decide (i < ((l.length : Nat) : Int))) = true →
    (inb phase i) ∧
    (((gt phase i) == 2) = true →
      F_timedR_J1 next when i I2 μ2 next when) ∧
    (((gt phase i) == 2) = false →
      (inb l i) ∧
      (((gt phase i) == 1) = true →
        (inb t.ops ((gt l i).op)) ∧
        ∀ x3 : Int, x3 = (IntKind.i64.wrap (((gt l i).start) + ((gt t.ops ((gt l i).op)).dur))) →
        F_timedR_J2 x3 next when i I2 μ2 phase) ∧
      (((gt phase i) == 1) = false →
        F_timedR_J2 ((gt l i).start) next when i I2 μ2 phase))) ∧
  ((decide (i < ((l.length : Nat) : Int))) = false →
    (inb l next) ∧
    (inb t.ops ((gt l next).op)) ∧
    (inb phase next) ∧
    (((gt phase next) == 0) = true →
      (pre_subset ((gt t.ops ((gt l next).op)).atStart) s_) ∧
      ∀ r3 : Bool, r3 = (sp_subset ((gt t.ops ((gt l next).op)).atStart) s_) →
      ((!r3) = true →
        K (0, false)) ∧
      ((!r3) = false →
        (pre_changed t.facts s_ ((gt t.ops ((gt l next).op)).addStart) ((gt t.ops ((gt l next).op)).delStart)) ∧
        ∀ r4 : List Int, r4 = (sp_changed t.facts s_ ((gt t.ops ((gt l next).op)).addStart) ((gt t.ops ((gt l next).op)).delStart)) →
        F_timedR_J4 t l K next when s_ now step phase I1 μ1 r4)) ∧
    (((gt phase next) == 0) = false →
      (pre_subset ((gt t.ops ((gt l next).op)).atEnd) s_) ∧
      ∀ r5 : Bool, r5 = (sp_subset ((gt t.ops ((gt l next).op)).atEnd) s_) →
      ((!r5) = true →
        K (0, false)) ∧
      ((!r5) = false →
        (pre_changed t.facts s_ ((gt t.ops ((gt l next).op)).addEnd) ((gt t.ops ((gt l next).op)).delEnd)) ∧
        ∀ r6 : List Int, r6 = (sp_changed t.facts s_ ((gt t.ops ((gt l next).op)).addEnd) ((gt t.ops ((gt l next).op)).delEnd)) →
        F_timedR_J4 t l K next when s_ now step phase I1 μ1 r6)))

def F_timedR_L1 (t : TTask) (l : List Occ) (K : (Int × Bool) → Prop) (s_ : List Int) (now : Int) (step : Int) (phase : List Int) (I1 : (List Int) → Int → Int → (List Int) → Prop) (μ1 : (List Int) → Int → Int → (List Int) → Nat) : Prop :=
  ∀ x : Bool, x = (decide (step < (IntKind.i64.wrap (2 * ((l.length : Nat) : Int))))) →
  ((x) = true →
    ∃ (I2 : Int → Int → Int → Prop) (μ2 : Int → Int → Int → Nat), I2 (-1) 0 0 ∧ ∀ (next : Int) (when : Int) (i : Int), I2 next when i → F_timedR_L2 t l K next when i I2 μ2 s_ now step phase I1 μ1) ∧
  ((x) = false →
    (pre_subset t.goal s_) ∧
    ∀ r7 : Bool, r7 = (sp_subset t.goal s_) →
    ((!r7) = true →
      K (0, false)) ∧
    ((!r7) = false →
      K (now, true)))

def F_timedR (t : TTask) (l : List Occ) (K : (Int × Bool) → Prop) : Prop :=
  (mkok ((l.length : Nat) : Int) 8) ∧
  ∃ (I1 : (List Int) → Int → Int → (List Int) → Prop) (μ1 : (List Int) → Int → Int → (List Int) → Nat), I1 t.init 0 0 (List.replicate (((l.length : Nat) : Int)).toNat (0 : Int)) ∧ ∀ (s_ : List Int) (now : Int) (step : Int) (phase : List Int), I1 s_ now step phase → F_timedR_L1 t l K s_ now step phase I1 μ1

def F_sequence_J2 (t : TTask) (pre : List Int) (t32 : Int) (l : List Operator) (I1 : Int → (List Operator) → Prop) (μ1 : Int → (List Operator) → Nat) : Prop :=
  (pre_update ((gt t.ops t32).addStart) ((gt t.ops t32).addEnd) ((gt t.ops t32).delEnd)) ∧
  ∀ r7 : List Int, r7 = (sp_update ((gt t.ops t32).addStart) ((gt t.ops t32).addEnd) ((gt t.ops t32).delEnd)) →
  (pre_union ((gt t.ops t32).delStart) ((gt t.ops t32).delEnd)) ∧
  ∀ r8 : List Int, r8 = (sp_union ((gt t.ops t32).delStart) ((gt t.ops t32).delEnd)) →
  (pre_minus r8 r7) ∧
  ∀ r9 : List Int, r9 = (sp_minus r8 r7) →
  (room ((l ++ ([(⟨pre, r7, r9, 0⟩ : Operator)] : List Operator))).length 80) ∧
  I1 (IntKind.i64.wrap (t32 + 1)) (l ++ ([(⟨pre, r7, r9, 0⟩ : Operator)] : List Operator)) ∧
  μ1 (IntKind.i64.wrap (t32 + 1)) (l ++ ([(⟨pre, r7, r9, 0⟩ : Operator)] : List Operator)) < μ1 t32 l

def F_sequence_L1 (t : TTask) (K : (Task × Fault) → Prop) (x : List Int) (x2 : List Int) (t32 : Int) (l : List Operator) (I1 : Int → (List Operator) → Prop) (μ1 : Int → (List Operator) → Nat) : Prop :=
  ((decide (t32 < ((t.ops.length : Nat) : Int))) = true →
    (inb t.ops t32) ∧
    (pre_union ((gt t.ops t32).over) ((gt t.ops t32).atEnd)) ∧
    ∀ r3 : List Int, r3 = (sp_union ((gt t.ops t32).over) ((gt t.ops t32).atEnd)) →
    (pre_minus r3 ((gt t.ops t32).addStart)) ∧
    ∀ r4 : List Int, r4 = (sp_minus r3 ((gt t.ops t32).addStart)) →
    (pre_union ((gt t.ops t32).atStart) r4) ∧
    ∀ r5 : List Int, r5 = (sp_union ((gt t.ops t32).atStart) r4) →
    (pre_meets r3 ((gt t.ops t32).delStart)) ∧
    ∀ r6 : Bool, r6 = (sp_meets r3 ((gt t.ops t32).delStart)) →
    ((r6) = true →
      (room ((r5 ++ ([t.facts] : List Int))).length 8) ∧
      F_sequence_J2 t (r5 ++ ([t.facts] : List Int)) t32 l I1 μ1) ∧
    ((r6) = false →
      F_sequence_J2 t r5 t32 l I1 μ1)) ∧
  ((decide (t32 < ((t.ops.length : Nat) : Int))) = false →
    K ((⟨IntKind.i64.wrap (t.facts + 1), x, x2, l⟩ : Task), (⟨0, 0⟩ : Fault)))

def F_sequence_J1 (t : TTask) (K : (Task × Fault) → Prop) (x : List Int) (x2 : List Int) : Prop :=
  ∃ (I1 : Int → (List Operator) → Prop) (μ1 : Int → (List Operator) → Nat), I1 0 ([] : List Operator) ∧ ∀ (t32 : Int) (l : List Operator), I1 t32 l → F_sequence_L1 t K x x2 t32 l I1 μ1

def F_sequence (t : TTask) (K : (Task × Fault) → Prop) : Prop :=
  ∀ r2 : Fault, r2 = (sp_tvalidate t) →
  ((!((r2.code == 0) && (r2.index == 0))) = true →
    K ((⟨0, [], [], []⟩ : Task), r2)) ∧
  ((!((r2.code == 0) && (r2.index == 0))) = false →
    (pre_clone t.init) ∧
    ∀ r10 : List Int, r10 = (sp_clone t.init) →
    (pre_clone t.goal) ∧
    ∀ r11 : List Int, r11 = (sp_clone t.goal) →
    F_sequence_J1 t K r10 r11)

def F_sequenced_J1 (never : Bool) (l3 : List Int) (l4 : List Int) (l5 : List Int) (p : Int) (never3 : Bool) (I2 : Bool → Int → (List Int) → (List Int) → (List Int) → Prop) (μ2 : Bool → Int → (List Int) → (List Int) → (List Int) → Nat) (l9 : List Int) (l10 : List Int) (l11 : List Int) : Prop :=
  I2 never3 (IntKind.i64.wrap (p + 1)) l9 l10 l11 ∧
  μ2 never3 (IntKind.i64.wrap (p + 1)) l9 l10 l11 < μ2 never p l3 l4 l5

def F_sequenced_J6 (never : Bool) (r4 : Bool) (l3 : List Int) (l4 : List Int) (l5 : List Int) (p : Int) (I2 : Bool → Int → (List Int) → (List Int) → (List Int) → Prop) (μ2 : Bool → Int → (List Int) → (List Int) → (List Int) → Nat) (never4 : Bool) (l12 : List Int) (l13 : List Int) : Prop :=
  ((!r4) = true →
    (room ((l5 ++ ([p] : List Int))).length 8) ∧
    F_sequenced_J1 never l3 l4 l5 p never4 I2 μ2 l12 l13 (l5 ++ ([p] : List Int))) ∧
  ((!r4) = false →
    F_sequenced_J1 never l3 l4 l5 p never4 I2 μ2 l12 l13 l5)

def F_sequenced_J5 (t : TTask) (never : Bool) (l3 : List Int) (l4 : List Int) (l5 : List Int) (p : Int) (I2 : Bool → Int → (List Int) → (List Int) → (List Int) → Prop) (μ2 : Bool → Int → (List Int) → (List Int) → (List Int) → Nat) (never4 : Bool) (l12 : List Int) (i : Int) : Prop :=
  (pre_changed t.facts ([p] : List Int) ((gt t.ops i).addStart) ((gt t.ops i).delStart)) ∧
  ∀ r2 : List Int, r2 = (sp_changed t.facts ([p] : List Int) ((gt t.ops i).addStart) ((gt t.ops i).delStart)) →
  (pre_changed t.facts r2 ((gt t.ops i).addEnd) ((gt t.ops i).delEnd)) ∧
  ∀ r3 : List Int, r3 = (sp_changed t.facts r2 ((gt t.ops i).addEnd) ((gt t.ops i).delEnd)) →
  (pre_has r3 p) ∧
  ∀ r4 : Bool, r4 = (sp_has r3 p) →
  (pre_changed t.facts [] ((gt t.ops i).addStart) ((gt t.ops i).delStart)) ∧
  ∀ r5 : List Int, r5 = (sp_changed t.facts [] ((gt t.ops i).addStart) ((gt t.ops i).delStart)) →
  (pre_changed t.facts r5 ((gt t.ops i).addEnd) ((gt t.ops i).delEnd)) ∧
  ∀ r6 : List Int, r6 = (sp_changed t.facts r5 ((gt t.ops i).addEnd) ((gt t.ops i).delEnd)) →
  (pre_has r6 p) ∧
  ∀ r7 : Bool, r7 = (sp_has r6 p) →
  ((r7) = true →
    (room ((l4 ++ ([p] : List Int))).length 8) ∧
    F_sequenced_J6 never r4 l3 l4 l5 p I2 μ2 never4 l12 (l4 ++ ([p] : List Int))) ∧
  ((r7) = false →
    F_sequenced_J6 never r4 l3 l4 l5 p I2 μ2 never4 l12 l4)

def F_sequenced_J4 (t : TTask) (later : Bool) (never : Bool) (l3 : List Int) (l4 : List Int) (l5 : List Int) (p : Int) (I2 : Bool → Int → (List Int) → (List Int) → (List Int) → Prop) (μ2 : Bool → Int → (List Int) → (List Int) → (List Int) → Nat) (l12 : List Int) (i : Int) : Prop :=
  ((never) = true →
    F_sequenced_J5 t never l3 l4 l5 p I2 μ2 true l12 i) ∧
  ((never) = false →
    ((later) = true →
      (pre_has ((gt t.ops i).delStart) p) ∧
      ∀ r8 : Bool, r8 = (sp_has ((gt t.ops i).delStart) p) →
      F_sequenced_J5 t never l3 l4 l5 p I2 μ2 r8 l12 i) ∧
    ((later) = false →
      F_sequenced_J5 t never l3 l4 l5 p I2 μ2 false l12 i))

def F_sequenced_J3 (t : TTask) (later : Bool) (t61 : Bool) (never : Bool) (l3 : List Int) (l4 : List Int) (l5 : List Int) (p : Int) (I2 : Bool → Int → (List Int) → (List Int) → (List Int) → Prop) (μ2 : Bool → Int → (List Int) → (List Int) → (List Int) → Nat) (i : Int) : Prop :=
  ((t61) = true →
    (room ((l3 ++ ([p] : List Int))).length 8) ∧
    F_sequenced_J4 t later never l3 l4 l5 p I2 μ2 (l3 ++ ([p] : List Int)) i) ∧
  ((t61) = false →
    F_sequenced_J4 t later never l3 l4 l5 p I2 μ2 l3 i)

def F_sequenced_J2 (t : TTask) (later : Bool) (never : Bool) (l3 : List Int) (l4 : List Int) (l5 : List Int) (p : Int) (I2 : Bool → Int → (List Int) → (List Int) → (List Int) → Prop) (μ2 : Bool → Int → (List Int) → (List Int) → (List Int) → Nat) (i : Int) : Prop :=
  (pre_has ((gt t.ops i).atStart) p) ∧
  ∀ r9 : Bool, r9 = (sp_has ((gt t.ops i).atStart) p) →
  ((r9) = true →
    F_sequenced_J3 t later true never l3 l4 l5 p I2 μ2 i) ∧
  ((r9) = false →
    ((later) = true →
      (pre_has ((gt t.ops i).addStart) p) ∧
      ∀ r10 : Bool, r10 = (sp_has ((gt t.ops i).addStart) p) →
      F_sequenced_J3 t later (!r10) never l3 l4 l5 p I2 μ2 i) ∧
    ((later) = false →
      F_sequenced_J3 t later false never l3 l4 l5 p I2 μ2 i))

def F_sequenced_J7 (l : List Operator) (l4 : List Int) (l5 : List Int) (i : Int) (I1 : Int → (List Operator) → Prop) (μ1 : Int → (List Operator) → Nat) (l14 : List Int) : Prop :=
  (room ((l ++ ([(⟨l14, l4, l5, 0⟩ : Operator)] : List Operator))).length 80) ∧
  I1 (IntKind.i64.wrap (i + 1)) (l ++ ([(⟨l14, l4, l5, 0⟩ : Operator)] : List Operator)) ∧
  μ1 (IntKind.i64.wrap (i + 1)) (l ++ ([(⟨l14, l4, l5, 0⟩ : Operator)] : List Operator)) < μ1 i l

def F_sequenced_L2 (t : TTask) (l : List Operator) (never : Bool) (l3 : List Int) (l4 : List Int) (l5 : List Int) (p : Int) (I2 : Bool → Int → (List Int) → (List Int) → (List Int) → Prop) (μ2 : Bool → Int → (List Int) → (List Int) → (List Int) → Nat) (i : Int) (I1 : Int → (List Operator) → Prop) (μ1 : Int → (List Operator) → Nat) : Prop :=
  ((decide (p < t.facts)) = true →
    (pre_has ((gt t.ops i).over) p) ∧
    ∀ r11 : Bool, r11 = (sp_has ((gt t.ops i).over) p) →
    ((r11) = true →
      F_sequenced_J2 t true never l3 l4 l5 p I2 μ2 i) ∧
    ((r11) = false →
      (pre_has ((gt t.ops i).atEnd) p) ∧
      ∀ r12 : Bool, r12 = (sp_has ((gt t.ops i).atEnd) p) →
      F_sequenced_J2 t r12 never l3 l4 l5 p I2 μ2 i)) ∧
  ((decide (p < t.facts)) = false →
    ((never) = true →
      (room ((l3 ++ ([t.facts] : List Int))).length 8) ∧
      F_sequenced_J7 l l4 l5 i I1 μ1 (l3 ++ ([t.facts] : List Int))) ∧
    ((never) = false →
      F_sequenced_J7 l l4 l5 i I1 μ1 l3))

def F_sequenced_L1 (t : TTask) (K : Task → Prop) (l : List Operator) (i : Int) (I1 : Int → (List Operator) → Prop) (μ1 : Int → (List Operator) → Nat) : Prop :=
  ((decide (i < ((t.ops.length : Nat) : Int))) = true →
    (inb t.ops i) ∧
    ∃ (I2 : Bool → Int → (List Int) → (List Int) → (List Int) → Prop) (μ2 : Bool → Int → (List Int) → (List Int) → (List Int) → Nat), I2 false 0 ([] : List Int) ([] : List Int) ([] : List Int) ∧ ∀ (never : Bool) (p : Int) (l3 : List Int) (l4 : List Int) (l5 : List Int), I2 never p l3 l4 l5 → F_sequenced_L2 t l never l3 l4 l5 p I2 μ2 i I1 μ1) ∧
  ((decide (i < ((t.ops.length : Nat) : Int))) = false →
    K (⟨IntKind.i64.wrap (t.facts + 1), t.init, t.goal, l⟩ : Task))

def F_sequenced (t : TTask) (K : Task → Prop) : Prop :=
  ∃ (I1 : Int → (List Operator) → Prop) (μ1 : Int → (List Operator) → Nat), I1 0 ([] : List Operator) ∧ ∀ (i : Int) (l : List Operator), I1 i l → F_sequenced_L1 t K l i I1 μ1

def F_line_J1 (t : TTask) (plan : List Int) (K : (List Occ × Fault) → Prop) (t36 : Bool) (at_4 : Int) (t23 : Int) (out : List Occ) (I1 : Int → Int → (List Occ) → Prop) (μ1 : Int → Int → (List Occ) → Nat) : Prop :=
  ((t36) = true →
    K (([] : List Occ), (⟨3, IntKind.i64.wrap ((-6) - t23)⟩ : Fault))) ∧
  ((t36) = false →
    (room ((out ++ ([(⟨(gt plan t23), at_4⟩ : Occ)] : List Occ))).length 16) ∧
    (inb t.ops (gt plan t23)) ∧
    I1 (IntKind.i64.wrap (at_4 + ((gt t.ops (gt plan t23)).dur))) (IntKind.i64.wrap (t23 + 1)) (out ++ ([(⟨(gt plan t23), at_4⟩ : Occ)] : List Occ)) ∧
  μ1 (IntKind.i64.wrap (at_4 + ((gt t.ops (gt plan t23)).dur))) (IntKind.i64.wrap (t23 + 1)) (out ++ ([(⟨(gt plan t23), at_4⟩ : Occ)] : List Occ)) < μ1 at_4 t23 out)

def F_line_L1 (t : TTask) (plan : List Int) (K : (List Occ × Fault) → Prop) (at_4 : Int) (t23 : Int) (out : List Occ) (I1 : Int → Int → (List Occ) → Prop) (μ1 : Int → Int → (List Occ) → Nat) : Prop :=
  ((decide (t23 < ((plan.length : Nat) : Int))) = true →
    (inb plan t23) ∧
    ((decide ((gt plan t23) < 0)) = true →
      F_line_J1 t plan K true at_4 t23 out I1 μ1) ∧
    ((decide ((gt plan t23) < 0)) = false →
      F_line_J1 t plan K (decide (((t.ops.length : Nat) : Int) ≤ (gt plan t23))) at_4 t23 out I1 μ1)) ∧
  ((decide (t23 < ((plan.length : Nat) : Int))) = false →
    K (out, (⟨0, 0⟩ : Fault)))

def F_line (t : TTask) (plan : List Int) (K : (List Occ × Fault) → Prop) : Prop :=
  ∀ r2 : Fault, r2 = (sp_tvalidate t) →
  ((!((r2.code == 0) && (r2.index == 0))) = true →
    K (([] : List Occ), r2)) ∧
  ((!((r2.code == 0) && (r2.index == 0))) = false →
    ((decide (12 < ((plan.length : Nat) : Int))) = true →
      K (([] : List Occ), (⟨2, (-5)⟩ : Fault))) ∧
    ((decide (12 < ((plan.length : Nat) : Int))) = false →
      ∃ (I1 : Int → Int → (List Occ) → Prop) (μ1 : Int → Int → (List Occ) → Nat), I1 0 0 ([] : List Occ) ∧ ∀ (at_4 : Int) (t23 : Int) (out : List Occ), I1 at_4 t23 out → F_line_L1 t plan K at_4 t23 out I1 μ1))

def F_occurs_L1 (a : List Occ) (b : List Occ) (K : Bool → Prop) (i : Int) (I1 : Int → Prop) (μ1 : Int → Nat) : Prop :=
  ((decide (i < ((a.length : Nat) : Int))) = true →
    (inb a i) ∧
    (inb b i) ∧
    ∀ x : Bool, x = (!((((gt a i).op) == ((gt b i).op)) && (((gt a i).start) == ((gt b i).start)))) →
    ((x) = true →
      K false) ∧
    ((x) = false →
      I1 (IntKind.i64.wrap (i + 1)) ∧
  μ1 (IntKind.i64.wrap (i + 1)) < μ1 i)) ∧
  ((decide (i < ((a.length : Nat) : Int))) = false →
    K true)

def F_occurs (a : List Occ) (b : List Occ) (K : Bool → Prop) : Prop :=
  ((((a.length : Nat) : Int) != ((b.length : Nat) : Int)) = true →
    K false) ∧
  ((((a.length : Nat) : Int) != ((b.length : Nat) : Int)) = false →
    ∃ (I1 : Int → Prop) (μ1 : Int → Nat), I1 0 ∧ ∀ (i : Int), I1 i → F_occurs_L1 a b K i I1 μ1)

def F_planning_J2 (K : Bool → Prop) (t83 : Bool) (i : Int) (I1 : Int → Prop) (μ1 : Int → Nat) : Prop :=
  ((t83) = true →
    K false) ∧
  ((t83) = false →
    I1 (IntKind.i64.wrap (i + 1)) ∧
  μ1 (IntKind.i64.wrap (i + 1)) < μ1 i)

def F_planning_L1 (a : Task) (b : Task) (K : Bool → Prop) (i : Int) (I1 : Int → Prop) (μ1 : Int → Nat) : Prop :=
  ((decide (i < ((a.ops.length : Nat) : Int))) = true →
    (inb a.ops i) ∧
    (inb b.ops i) ∧
    (pre_numbers ((gt a.ops i).pre) ((gt b.ops i).pre)) ∧
    ∀ r2 : Bool, r2 = (sp_numbers ((gt a.ops i).pre) ((gt b.ops i).pre)) →
    ((!r2) = true →
      F_planning_J2 K true i I1 μ1) ∧
    ((!r2) = false →
      (pre_numbers ((gt a.ops i).add) ((gt b.ops i).add)) ∧
      ∀ r3 : Bool, r3 = (sp_numbers ((gt a.ops i).add) ((gt b.ops i).add)) →
      ((!r3) = true →
        F_planning_J2 K true i I1 μ1) ∧
      ((!r3) = false →
        (pre_numbers ((gt a.ops i).del) ((gt b.ops i).del)) ∧
        ∀ r4 : Bool, r4 = (sp_numbers ((gt a.ops i).del) ((gt b.ops i).del)) →
        ((!r4) = true →
          F_planning_J2 K true i I1 μ1) ∧
        ((!r4) = false →
          F_planning_J2 K (((gt a.ops i).cost) != ((gt b.ops i).cost)) i I1 μ1)))) ∧
  ((decide (i < ((a.ops.length : Nat) : Int))) = false →
    K true)

def F_planning_J1 (a : Task) (b : Task) (K : Bool → Prop) (t37 : Bool) : Prop :=
  ((t37) = true →
    K false) ∧
  ((t37) = false →
    ∃ (I1 : Int → Prop) (μ1 : Int → Nat), I1 0 ∧ ∀ (i : Int), I1 i → F_planning_L1 a b K i I1 μ1)

def F_planning (a : Task) (b : Task) (K : Bool → Prop) : Prop :=
  ((a.facts != b.facts) = true →
    F_planning_J1 a b K true) ∧
  ((a.facts != b.facts) = false →
    (pre_numbers a.init b.init) ∧
    ∀ r5 : Bool, r5 = (sp_numbers a.init b.init) →
    ((!r5) = true →
      F_planning_J1 a b K true) ∧
    ((!r5) = false →
      (pre_numbers a.goal b.goal) ∧
      ∀ r6 : Bool, r6 = (sp_numbers a.goal b.goal) →
      ((!r6) = true →
        F_planning_J1 a b K true) ∧
      ((!r6) = false →
        F_planning_J1 a b K (((a.ops.length : Nat) : Int) != ((b.ops.length : Nat) : Int)))))

def F_timedT (K : TTask → Prop) : Prop :=
  K (⟨1, [], ([0] : List Int), ([(⟨[], [], [], [], [], ([0] : List Int), [], 3⟩ : TOp)] : List TOp)⟩ : TTask)

def F_lasted (K : Bool → Prop) : Prop :=
  ∀ r2 : TTask, r2 = sp_timedT →
  ∀ r3 : Int × Bool × Fault, r3 = (sp_tcheck r2 ([(⟨0, 0⟩ : Occ)] : List Occ)) →
  ((r3.2.2.code == 0) = true →
    ((r3.2.1) = true →
      K (r3.1 == 3)) ∧
    ((r3.2.1) = false →
      K false)) ∧
  ((r3.2.2.code == 0) = false →
    K false)

def F_lawTimed_J1 (t : TTask) (l : List Occ) (K : Bool → Prop) (r2 : Int × Bool × Fault) (r3 : Fault) (t30 : Bool) : Prop :=
  ((t30) = true →
    K false) ∧
  ((t30) = false →
    ((r3.code != 0) = true →
      ((r2.1 == 0) = true →
        ((!r2.2.1) = true →
          ∀ r4 : Bool, r4 = sp_lasted →
          K r4) ∧
        ((!r2.2.1) = false →
          K false)) ∧
      ((r2.1 == 0) = false →
        K false)) ∧
    ((r3.code != 0) = false →
      (pre_timedR t l) ∧
      ∀ r5 : Int × Bool, r5 = (sp_timedR t l) →
      ((r2.1 == r5.1) = true →
        ((r2.2.1 == r5.2) = true →
          ∀ r6 : Bool, r6 = sp_lasted →
          K r6) ∧
        ((r2.2.1 == r5.2) = false →
          K false)) ∧
      ((r2.1 == r5.1) = false →
        K false)))

def F_lawTimed (t : TTask) (l : List Occ) (K : Bool → Prop) : Prop :=
  ∀ r2 : Int × Bool × Fault, r2 = (sp_tcheck t l) →
  ∀ r3 : Fault, r3 = (sp_scheduleFault t l) →
  ∀ r7 : Fault, r7 = (sp_tvalidate t) →
  ∀ r8 : Fault, r8 = (sp_tvalidate t) →
  ((!((r7.code == r8.code) && (r7.index == r8.index))) = true →
    F_lawTimed_J1 t l K r2 r3 true) ∧
  ((!((r7.code == r8.code) && (r7.index == r8.index))) = false →
    F_lawTimed_J1 t l K r2 r3 (!((r2.2.2.code == r3.code) && (r2.2.2.index == r3.index))))

def F_lawDelayed_J1 (l : List Occ) (by_ : Int) (K : Bool → Prop) (t42 : Bool) (i : Int) (later : List Occ) (I1 : Int → (List Occ) → Prop) (μ1 : Int → (List Occ) → Nat) : Prop :=
  ((t42) = true →
    ∀ r2 : Bool, r2 = sp_lasted →
    K r2) ∧
  ((t42) = false →
    (inb l i) ∧
    (room ((later ++ ([(⟨(gt l i).op, IntKind.i64.wrap (((gt l i).start) + by_)⟩ : Occ)] : List Occ))).length 16) ∧
    I1 (IntKind.i64.wrap (i + 1)) (later ++ ([(⟨(gt l i).op, IntKind.i64.wrap (((gt l i).start) + by_)⟩ : Occ)] : List Occ)) ∧
  μ1 (IntKind.i64.wrap (i + 1)) (later ++ ([(⟨(gt l i).op, IntKind.i64.wrap (((gt l i).start) + by_)⟩ : Occ)] : List Occ)) < μ1 i later)

def F_lawDelayed_J2 (l : List Occ) (by_ : Int) (K : Bool → Prop) (r3 : Int × Bool × Fault) (r4 : Int × Bool × Fault) (t81 : Bool) : Prop :=
  ((t81) = true →
    (((r3.2.2.code == r4.2.2.code) && (r3.2.2.index == r4.2.2.index)) = true →
      ∀ r5 : Bool, r5 = sp_lasted →
      K r5) ∧
    (((r3.2.2.code == r4.2.2.code) && (r3.2.2.index == r4.2.2.index)) = false →
      K false)) ∧
  ((t81) = false →
    ((r3.2.1 == r4.2.1) = true →
      ((!r3.2.1) = true →
        ∀ r6 : Bool, r6 = sp_lasted →
        K r6) ∧
      ((!r3.2.1) = false →
        ((((l.length : Nat) : Int) == 0) = true →
          ((r4.1 == r3.1) = true →
            ∀ r7 : Bool, r7 = sp_lasted →
            K r7) ∧
          ((r4.1 == r3.1) = false →
            ((decide (0 < ((l.length : Nat) : Int))) = true →
              ((r4.1 == (IntKind.i64.wrap (r3.1 + by_))) = true →
                ∀ r8 : Bool, r8 = sp_lasted →
                K r8) ∧
              ((r4.1 == (IntKind.i64.wrap (r3.1 + by_))) = false →
                K false)) ∧
            ((decide (0 < ((l.length : Nat) : Int))) = false →
              K false))) ∧
        ((((l.length : Nat) : Int) == 0) = false →
          ((decide (0 < ((l.length : Nat) : Int))) = true →
            ((r4.1 == (IntKind.i64.wrap (r3.1 + by_))) = true →
              ∀ r9 : Bool, r9 = sp_lasted →
              K r9) ∧
            ((r4.1 == (IntKind.i64.wrap (r3.1 + by_))) = false →
              K false)) ∧
          ((decide (0 < ((l.length : Nat) : Int))) = false →
            K false)))) ∧
    ((r3.2.1 == r4.2.1) = false →
      K false))

def F_lawDelayed_L1 (t : TTask) (l : List Occ) (by_ : Int) (K : Bool → Prop) (i : Int) (later : List Occ) (I1 : Int → (List Occ) → Prop) (μ1 : Int → (List Occ) → Nat) : Prop :=
  ((decide (i < ((l.length : Nat) : Int))) = true →
    ((decide (by_ < 0)) = true →
      F_lawDelayed_J1 l by_ K true i later I1 μ1) ∧
    ((decide (by_ < 0)) = false →
      ((decide (1000 < by_)) = true →
        F_lawDelayed_J1 l by_ K true i later I1 μ1) ∧
      ((decide (1000 < by_)) = false →
        (inb l i) ∧
        ((decide (((gt l i).start) < 0)) = true →
          F_lawDelayed_J1 l by_ K true i later I1 μ1) ∧
        ((decide (((gt l i).start) < 0)) = false →
          F_lawDelayed_J1 l by_ K (decide (1000 < ((gt l i).start))) i later I1 μ1)))) ∧
  ((decide (i < ((l.length : Nat) : Int))) = false →
    ∀ r3 : Int × Bool × Fault, r3 = (sp_tcheck t l) →
    ∀ r4 : Int × Bool × Fault, r4 = (sp_tcheck t later) →
    ((r3.2.2.code != 0) = true →
      F_lawDelayed_J2 l by_ K r3 r4 true) ∧
    ((r3.2.2.code != 0) = false →
      F_lawDelayed_J2 l by_ K r3 r4 (r4.2.2.code != 0)))

def F_lawDelayed (t : TTask) (l : List Occ) (by_ : Int) (K : Bool → Prop) : Prop :=
  ∃ (I1 : Int → (List Occ) → Prop) (μ1 : Int → (List Occ) → Nat), I1 0 ([] : List Occ) ∧ ∀ (i : Int) (later : List Occ), I1 i later → F_lawDelayed_L1 t l by_ K i later I1 μ1

def F_lawEndsLast_J2 (last : Int) (i : Int) (I1 : Int → Int → Prop) (μ1 : Int → Int → Nat) (last3 : Int) : Prop :=
  I1 last3 (IntKind.i64.wrap (i + 1)) ∧
  μ1 last3 (IntKind.i64.wrap (i + 1)) < μ1 last i

def F_lawEndsLast_L1 (t : TTask) (l : List Occ) (K : Bool → Prop) (r2 : Int × Bool × Fault) (last : Int) (i : Int) (I1 : Int → Int → Prop) (μ1 : Int → Int → Nat) : Prop :=
  ((decide (i < ((l.length : Nat) : Int))) = true →
    (inb l i) ∧
    (inb t.ops ((gt l i).op)) ∧
    ∀ x : Int, x = (IntKind.i64.wrap (((gt l i).start) + ((gt t.ops ((gt l i).op)).dur))) →
    ((decide (last < x)) = true →
      F_lawEndsLast_J2 last i I1 μ1 x) ∧
    ((decide (last < x)) = false →
      F_lawEndsLast_J2 last i I1 μ1 last)) ∧
  ((decide (i < ((l.length : Nat) : Int))) = false →
    ((r2.1 == last) = true →
      ∀ r4 : Bool, r4 = sp_lasted →
      K r4) ∧
    ((r2.1 == last) = false →
      K false))

def F_lawEndsLast_J1 (t : TTask) (l : List Occ) (K : Bool → Prop) (r2 : Int × Bool × Fault) (t24 : Bool) : Prop :=
  ((t24) = true →
    ∀ r3 : Bool, r3 = sp_lasted →
    K r3) ∧
  ((t24) = false →
    ∃ (I1 : Int → Int → Prop) (μ1 : Int → Int → Nat), I1 0 0 ∧ ∀ (last : Int) (i : Int), I1 last i → F_lawEndsLast_L1 t l K r2 last i I1 μ1)

def F_lawEndsLast (t : TTask) (l : List Occ) (K : Bool → Prop) : Prop :=
  ∀ r2 : Int × Bool × Fault, r2 = (sp_tcheck t l) →
  ((r2.2.2.code != 0) = true →
    F_lawEndsLast_J1 t l K r2 true) ∧
  ((r2.2.2.code != 0) = false →
    F_lawEndsLast_J1 t l K r2 (!r2.2.1))

def F_lawLine_J4 (x3 : Int) (x4 : Int) (i : Int) (I1 : Int → Int → Int → Prop) (μ1 : Int → Int → Int → Nat) (x7 : Int) (x8 : Int) : Prop :=
  I1 (IntKind.i64.wrap (i + 1)) x7 x8 ∧
  μ1 (IntKind.i64.wrap (i + 1)) x7 x8 < μ1 i x3 x4

def F_lawLine_L3 (t : TTask) (plan : List Int) (start2 : Int) (k : Int) (I3 : Int → Int → Prop) (μ3 : Int → Int → Nat) (i3 : Int) (want : List Occ) (I2 : Int → (List Occ) → Prop) (μ2 : Int → (List Occ) → Nat) : Prop :=
  ((decide (k < i3)) = true →
    (inb plan k) ∧
    (inb t.ops (gt plan k)) ∧
    I3 (IntKind.i64.wrap (start2 + ((gt t.ops (gt plan k)).dur))) (IntKind.i64.wrap (k + 1)) ∧
  μ3 (IntKind.i64.wrap (start2 + ((gt t.ops (gt plan k)).dur))) (IntKind.i64.wrap (k + 1)) < μ3 start2 k) ∧
  ((decide (k < i3)) = false →
    (inb plan i3) ∧
    (room ((want ++ ([(⟨(gt plan i3), start2⟩ : Occ)] : List Occ))).length 16) ∧
    I2 (IntKind.i64.wrap (i3 + 1)) (want ++ ([(⟨(gt plan i3), start2⟩ : Occ)] : List Occ)) ∧
  μ2 (IntKind.i64.wrap (i3 + 1)) (want ++ ([(⟨(gt plan i3), start2⟩ : Occ)] : List Occ)) < μ2 i3 want)

def F_lawLine_L2 (t : TTask) (plan : List Int) (K : Bool → Prop) (r2 : List Occ × Fault) (i3 : Int) (want : List Occ) (I2 : Int → (List Occ) → Prop) (μ2 : Int → (List Occ) → Nat) : Prop :=
  ((decide (i3 < ((plan.length : Nat) : Int))) = true →
    ∃ (I3 : Int → Int → Prop) (μ3 : Int → Int → Nat), I3 0 0 ∧ ∀ (start2 : Int) (k : Int), I3 start2 k → F_lawLine_L3 t plan start2 k I3 μ3 i3 want I2 μ2) ∧
  ((decide (i3 < ((plan.length : Nat) : Int))) = false →
    ((r2.2.code == 0) = true →
      (pre_occurs r2.1 want) ∧
      ∀ r7 : Bool, r7 = (sp_occurs r2.1 want) →
      ((r7) = true →
        ∀ r8 : Bool, r8 = sp_lasted →
        K r8) ∧
      ((r7) = false →
        K false)) ∧
    ((r2.2.code == 0) = false →
      K false))

def F_lawLine_J3 (t : TTask) (plan : List Int) (K : Bool → Prop) (r2 : List Occ × Fault) (t38 : Bool) (x3 : Int) (x4 : Int) (i : Int) (I1 : Int → Int → Int → Prop) (μ1 : Int → Int → Int → Nat) : Prop :=
  ((t38) = true →
    (inb plan i) ∧
    ∀ r4 : Bool, r4 = (sp_in_ (gt plan i) 0 (IntKind.i64.wrap (((t.ops.length : Nat) : Int) - 1))) →
    ((!r4) = true →
      ∀ r5 : Fault, r5 = (sp_at_ 3 (IntKind.i64.wrap ((-6) - i))) →
      F_lawLine_J4 x3 x4 i I1 μ1 r5.code r5.index) ∧
    ((!r4) = false →
      F_lawLine_J4 x3 x4 i I1 μ1 x3 x4)) ∧
  ((t38) = false →
    ((x3 != 0) = true →
      (((r2.2.code == x3) && (r2.2.index == x4)) = true →
        ((((r2.1.length : Nat) : Int) == 0) = true →
          ∀ r6 : Bool, r6 = sp_lasted →
          K r6) ∧
        ((((r2.1.length : Nat) : Int) == 0) = false →
          K false)) ∧
      (((r2.2.code == x3) && (r2.2.index == x4)) = false →
        K false)) ∧
    ((x3 != 0) = false →
      ∃ (I2 : Int → (List Occ) → Prop) (μ2 : Int → (List Occ) → Nat), I2 0 ([] : List Occ) ∧ ∀ (i3 : Int) (want : List Occ), I2 i3 want → F_lawLine_L2 t plan K r2 i3 want I2 μ2))

def F_lawLine_L1 (t : TTask) (plan : List Int) (K : Bool → Prop) (r2 : List Occ × Fault) (x3 : Int) (x4 : Int) (i : Int) (I1 : Int → Int → Int → Prop) (μ1 : Int → Int → Int → Nat) : Prop :=
  ((decide (i < ((plan.length : Nat) : Int))) = true →
    F_lawLine_J3 t plan K r2 (x3 == 0) x3 x4 i I1 μ1) ∧
  ((decide (i < ((plan.length : Nat) : Int))) = false →
    F_lawLine_J3 t plan K r2 false x3 x4 i I1 μ1)

def F_lawLine_J2 (t : TTask) (plan : List Int) (K : Bool → Prop) (r2 : List Occ × Fault) (x : Int) (x2 : Int) : Prop :=
  ∃ (I1 : Int → Int → Int → Prop) (μ1 : Int → Int → Int → Nat), I1 0 x x2 ∧ ∀ (i : Int) (x3 : Int) (x4 : Int), I1 i x3 x4 → F_lawLine_L1 t plan K r2 x3 x4 i I1 μ1

def F_lawLine_J1 (t : TTask) (plan : List Int) (K : Bool → Prop) (r2 : List Occ × Fault) (r3 : Fault) (t28 : Bool) : Prop :=
  ((t28) = true →
    ∀ r9 : Fault, r9 = (sp_at_ 2 (-5)) →
    F_lawLine_J2 t plan K r2 r9.code r9.index) ∧
  ((t28) = false →
    F_lawLine_J2 t plan K r2 r3.code r3.index)

def F_lawLine (t : TTask) (plan : List Int) (K : Bool → Prop) : Prop :=
  ∀ r2 : List Occ × Fault, r2 = (sp_line t plan) →
  ∀ r3 : Fault, r3 = (sp_tvalidate t) →
  ((r3.code == 0) = true →
    F_lawLine_J1 t plan K r2 r3 (decide (12 < ((plan.length : Nat) : Int)))) ∧
  ((r3.code == 0) = false →
    F_lawLine_J1 t plan K r2 r3 false)

def F_lawSequence (t : TTask) (K : Bool → Prop) : Prop :=
  ∀ r2 : Task × Fault, r2 = (sp_sequence t) →
  ∀ r3 : Fault, r3 = (sp_tvalidate t) →
  ((r3.code != 0) = true →
    (((r2.2.code == r3.code) && (r2.2.index == r3.index)) = true →
      (pre_planning r2.1 (⟨0, [], [], []⟩ : Task)) ∧
      ∀ r4 : Bool, r4 = (sp_planning r2.1 (⟨0, [], [], []⟩ : Task)) →
      ((r4) = true →
        ∀ r5 : Bool, r5 = sp_lasted →
        K r5) ∧
      ((r4) = false →
        K false)) ∧
    (((r2.2.code == r3.code) && (r2.2.index == r3.index)) = false →
      K false)) ∧
  ((r3.code != 0) = false →
    ((r2.2.code == 0) = true →
      (pre_sequenced t) ∧
      ∀ r6 : Task, r6 = (sp_sequenced t) →
      (pre_planning r2.1 r6) ∧
      ∀ r7 : Bool, r7 = (sp_planning r2.1 r6) →
      ((r7) = true →
        ∀ r8 : Fault, r8 = (sp_validate r2.1) →
        ((r8.code == 0) = true →
          ∀ r9 : Bool, r9 = sp_lasted →
          K r9) ∧
        ((r8.code == 0) = false →
          K false)) ∧
      ((r7) = false →
        K false)) ∧
    ((r2.2.code == 0) = false →
      K false))

def F_lawSequential_L1 (t : TTask) (plan : List Int) (K : Bool → Prop) (r5 : Bool × Fault) (r6 : Int × Bool × Fault) (sum : Int) (k : Int) (I1 : Int → Int → Prop) (μ1 : Int → Int → Nat) : Prop :=
  ((decide (k < ((plan.length : Nat) : Int))) = true →
    (inb plan k) ∧
    (inb t.ops (gt plan k)) ∧
    I1 (IntKind.i64.wrap (sum + ((gt t.ops (gt plan k)).dur))) (IntKind.i64.wrap (k + 1)) ∧
  μ1 (IntKind.i64.wrap (sum + ((gt t.ops (gt plan k)).dur))) (IntKind.i64.wrap (k + 1)) < μ1 sum k) ∧
  ((decide (k < ((plan.length : Nat) : Int))) = false →
    ((!r5.1) = true →
      ∀ r7 : Bool, r7 = sp_lasted →
      K r7) ∧
    ((!r5.1) = false →
      ((r6.1 == sum) = true →
        ∀ r8 : Bool, r8 = sp_lasted →
        K r8) ∧
      ((r6.1 == sum) = false →
        K false)))

def F_lawSequential_J2 (t : TTask) (plan : List Int) (K : Bool → Prop) (r5 : Bool × Fault) (r6 : Int × Bool × Fault) (t61 : Bool) : Prop :=
  ((t61) = true →
    K false) ∧
  ((t61) = false →
    ∃ (I1 : Int → Int → Prop) (μ1 : Int → Int → Nat), I1 0 0 ∧ ∀ (sum : Int) (k : Int), I1 sum k → F_lawSequential_L1 t plan K r5 r6 sum k I1 μ1)

def F_lawSequential_J1 (t : TTask) (plan : List Int) (K : Bool → Prop) (r2 : List Occ × Fault) (r3 : Task × Fault) (t34 : Bool) : Prop :=
  ((t34) = true →
    ∀ r4 : Bool, r4 = sp_lasted →
    K r4) ∧
  ((t34) = false →
    ∀ r5 : Bool × Fault, r5 = (sp_solves r3.1 plan) →
    ∀ r6 : Int × Bool × Fault, r6 = (sp_tcheck t r2.1) →
    ((r5.2.code != 0) = true →
      F_lawSequential_J2 t plan K r5 r6 true) ∧
    ((r5.2.code != 0) = false →
      ((r6.2.2.code != 0) = true →
        F_lawSequential_J2 t plan K r5 r6 true) ∧
      ((r6.2.2.code != 0) = false →
        F_lawSequential_J2 t plan K r5 r6 (r5.1 != r6.2.1))))

def F_lawSequential (t : TTask) (plan : List Int) (K : Bool → Prop) : Prop :=
  ∀ r2 : List Occ × Fault, r2 = (sp_line t plan) →
  ∀ r3 : Task × Fault, r3 = (sp_sequence t) →
  ((r2.2.code != 0) = true →
    F_lawSequential_J1 t plan K r2 r3 true) ∧
  ((r2.2.code != 0) = false →
    F_lawSequential_J1 t plan K r2 r3 (r3.2.code != 0))
end Go.Proofs.Ytaenggfmpagjgaa.Pl
