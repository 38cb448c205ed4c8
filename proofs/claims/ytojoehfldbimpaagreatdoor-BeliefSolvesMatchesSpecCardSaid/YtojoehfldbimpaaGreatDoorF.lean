/- What each function asks and gives, in plain Lean; printed from the code. No condition. -/
import Derived.Test.YtojoehfldbimpaaGreatDoorSp
namespace Go.Proofs.YtojoehfldbimpaaGreatDoor.Pl
open Go Go.RowKit
def F_in_ (n_ : Int) (low : Int) (high : Int) (K : Bool → Prop) : Prop :=
  ((decide (low ≤ n_)) = true →
    K (decide (n_ ≤ high))) ∧
  ((decide (low ≤ n_)) = false →
    K false)

def F_at_ (code : Int) (index : Int) (K : Fault → Prop) : Prop :=
  K (⟨code, index⟩ : Fault)

def F_has_L1 (l : List Int) (n_ : Int) (K : Bool → Prop) (i : Int) (I1 : Int → Prop) (μ1 : Int → Nat) : Prop :=
  ((decide (i < ((l.length : Nat) : Int))) = true →
    (inb l i) ∧
    (((gt l i) == n_) = true →
      K true) ∧
    (((gt l i) == n_) = false →
      I1 (IntKind.i64.wrap (i + 1)) ∧
  μ1 (IntKind.i64.wrap (i + 1)) < μ1 i)) ∧
  ((decide (i < ((l.length : Nat) : Int))) = false →
    K false)

def F_has (l : List Int) (n_ : Int) (K : Bool → Prop) : Prop :=
  ∃ (I1 : Int → Prop) (μ1 : Int → Nat), I1 0 ∧ ∀ (i : Int), I1 i → F_has_L1 l n_ K i I1 μ1

def F_numbers_L1 (a : List Int) (b : List Int) (K : Bool → Prop) (i : Int) (I1 : Int → Prop) (μ1 : Int → Nat) : Prop :=
  ((decide (i < ((a.length : Nat) : Int))) = true →
    (inb a i) ∧
    (inb b i) ∧
    (((gt a i) != (gt b i)) = true →
      K false) ∧
    (((gt a i) != (gt b i)) = false →
      I1 (IntKind.i64.wrap (i + 1)) ∧
  μ1 (IntKind.i64.wrap (i + 1)) < μ1 i)) ∧
  ((decide (i < ((a.length : Nat) : Int))) = false →
    K true)

def F_numbers (a : List Int) (b : List Int) (K : Bool → Prop) : Prop :=
  ((((a.length : Nat) : Int) != ((b.length : Nat) : Int)) = true →
    K false) ∧
  ((((a.length : Nat) : Int) != ((b.length : Nat) : Int)) = false →
    ∃ (I1 : Int → Prop) (μ1 : Int → Nat), I1 0 ∧ ∀ (i : Int), I1 i → F_numbers_L1 a b K i I1 μ1)

def F_isNaN1 (x : Int) (K : Bool → Prop) : Prop :=
  K (x != x)

def F_isNaN2 (x : Int) (K : Bool → Prop) : Prop :=
  K (x != x)

def F_less (x : Int) (y : Int) (K : Bool → Prop) : Prop :=
  ∀ r2 : Bool, r2 = (sp_isNaN1 x) →
  ((r2) = true →
    ∀ r3 : Bool, r3 = (sp_isNaN1 y) →
    ((!r3) = true →
      K true) ∧
    ((!r3) = false →
      K (decide (x < y)))) ∧
  ((r2) = false →
    K (decide (x < y)))

def F_bsearch_L1 (x : List Int) (target : Int) (K : (Int × Bool) → Prop) (i : Int) (j : Int) (I1 : Int → Int → Prop) (μ1 : Int → Int → Nat) : Prop :=
  ((decide (i < j)) = true →
    ∀ x2 : Int, x2 = (Int.fdiv (IntKind.u64.wrap (IntKind.i64.wrap (i + j))) (2 ^ (min ((1 : Int)).toNat (IntKind.bits .u64)))) →
    (inb x (IntKind.i64.wrap (x2))) ∧
    ∀ r2 : Bool, r2 = (sp_less (gt x (IntKind.i64.wrap (x2))) target) →
    ((r2) = true →
      I1 (IntKind.i64.wrap ((IntKind.i64.wrap (x2)) + 1)) j ∧
  μ1 (IntKind.i64.wrap ((IntKind.i64.wrap (x2)) + 1)) j < μ1 i j) ∧
    ((r2) = false →
      I1 i (IntKind.i64.wrap (x2)) ∧
  μ1 i (IntKind.i64.wrap (x2)) < μ1 i j)) ∧
  ((decide (i < j)) = false →
    ((decide (i < ((x.length : Nat) : Int))) = true →
      (inb x i) ∧
      (((gt x i) == target) = true →
        K (i, true)) ∧
      (((gt x i) == target) = false →
        ∀ r3 : Bool, r3 = (sp_isNaN1 (gt x i)) →
        ((r3) = true →
          ∀ r4 : Bool, r4 = (sp_isNaN1 target) →
          K (i, r4)) ∧
        ((r3) = false →
          K (i, false)))) ∧
    ((decide (i < ((x.length : Nat) : Int))) = false →
      K (i, false)))

def F_bsearch (x : List Int) (target : Int) (K : (Int × Bool) → Prop) : Prop :=
  ∃ (I1 : Int → Int → Prop) (μ1 : Int → Int → Nat), I1 0 ((x.length : Nat) : Int) ∧ ∀ (i : Int) (j : Int), I1 i j → F_bsearch_L1 x target K i j I1 μ1

def F_indexF_L1 (s_ : List Int) (pf : Int → Bool) (Df : Int → Prop) (K : Int → Prop) (t8 : Int) (I1 : Int → Prop) (μ1 : Int → Nat) : Prop :=
  ((decide (t8 < ((s_.length : Nat) : Int))) = true →
    (inb s_ t8) ∧
    (Df (gt s_ t8)) ∧
    ∀ r2 : Bool, r2 = (pf (gt s_ t8)) →
    ((r2) = true →
      K t8) ∧
    ((r2) = false →
      I1 (IntKind.i64.wrap (t8 + 1)) ∧
  μ1 (IntKind.i64.wrap (t8 + 1)) < μ1 t8)) ∧
  ((decide (t8 < ((s_.length : Nat) : Int))) = false →
    K (-1))

def F_indexF (s_ : List Int) (pf : Int → Bool) (Df : Int → Prop) (K : Int → Prop) : Prop :=
  ∃ (I1 : Int → Prop) (μ1 : Int → Nat), I1 0 ∧ ∀ (t8 : Int), I1 t8 → F_indexF_L1 s_ pf Df K t8 I1 μ1

def F_containsF (s_ : List Int) (pf : Int → Bool) (Df : Int → Prop) (K : Bool → Prop) : Prop :=
  (pre_any s_ pf Df) ∧
  ∀ r2 : Int, r2 = (sp_indexF s_ pf Df) →
  K (decide (0 ≤ r2))

def F_isSet_J1 (K : Bool → Prop) (t33 : Bool) (t9 : Int) (I1 : Int → Prop) (μ1 : Int → Nat) : Prop :=
  ((t33) = true →
    K false) ∧
  ((t33) = false →
    I1 (IntKind.i64.wrap (t9 + 1)) ∧
  μ1 (IntKind.i64.wrap (t9 + 1)) < μ1 t9)

def F_isSet_L1 (l : List Int) (n_ : Int) (K : Bool → Prop) (t9 : Int) (I1 : Int → Prop) (μ1 : Int → Nat) : Prop :=
  ((decide (t9 < ((l.length : Nat) : Int))) = true →
    (inb l t9) ∧
    ((decide ((gt l t9) < 0)) = true →
      F_isSet_J1 K true t9 I1 μ1) ∧
    ((decide ((gt l t9) < 0)) = false →
      ((decide (n_ ≤ (gt l t9))) = true →
        F_isSet_J1 K true t9 I1 μ1) ∧
      ((decide (n_ ≤ (gt l t9))) = false →
        ((decide (0 < t9)) = true →
          (inb l (IntKind.i64.wrap (t9 - 1))) ∧
          F_isSet_J1 K (decide ((gt l t9) ≤ (gt l (IntKind.i64.wrap (t9 - 1))))) t9 I1 μ1) ∧
        ((decide (0 < t9)) = false →
          F_isSet_J1 K false t9 I1 μ1)))) ∧
  ((decide (t9 < ((l.length : Nat) : Int))) = false →
    K true)

def F_isSet (l : List Int) (n_ : Int) (K : Bool → Prop) : Prop :=
  ∃ (I1 : Int → Prop) (μ1 : Int → Nat), I1 0 ∧ ∀ (t9 : Int), I1 t9 → F_isSet_L1 l n_ K t9 I1 μ1

def F_rIsSet_J1 (K : Bool → Prop) (t35 : Bool) (i : Int) (I1 : Int → Prop) (μ1 : Int → Nat) : Prop :=
  ((t35) = true →
    K false) ∧
  ((t35) = false →
    I1 (IntKind.i64.wrap (i + 1)) ∧
  μ1 (IntKind.i64.wrap (i + 1)) < μ1 i)

def F_rIsSet_L1 (l : List Int) (n_ : Int) (K : Bool → Prop) (i : Int) (I1 : Int → Prop) (μ1 : Int → Nat) : Prop :=
  ((decide (i < ((l.length : Nat) : Int))) = true →
    (inb l i) ∧
    ∀ r2 : Bool, r2 = (sp_in_ (gt l i) 0 (IntKind.i64.wrap (n_ - 1))) →
    ((!r2) = true →
      F_rIsSet_J1 K true i I1 μ1) ∧
    ((!r2) = false →
      ((decide (0 < i)) = true →
        (inb l (IntKind.i64.wrap (i - 1))) ∧
        F_rIsSet_J1 K (decide ((gt l i) ≤ (gt l (IntKind.i64.wrap (i - 1))))) i I1 μ1) ∧
      ((decide (0 < i)) = false →
        F_rIsSet_J1 K false i I1 μ1))) ∧
  ((decide (i < ((l.length : Nat) : Int))) = false →
    K true)

def F_rIsSet (l : List Int) (n_ : Int) (K : Bool → Prop) : Prop :=
  ∃ (I1 : Int → Prop) (μ1 : Int → Nat), I1 0 ∧ ∀ (i : Int), I1 i → F_rIsSet_L1 l n_ K i I1 μ1

def F_meets1 (x : Int) (x2 : List Int) (K : Bool → Prop) : Prop :=
  (pre_bsearch x2 x) ∧
  ∀ r2 : Int × Bool, r2 = (sp_bsearch x2 x) →
  K r2.2

def F_meets (a : List Int) (b : List Int) (K : Bool → Prop) : Prop :=
  (pre_any a (fun y_ : Int => sp_meets1 y_ b) (fun y_ : Int => pre_meets1 y_ b)) ∧
  ∀ r2 : Bool, r2 = (sp_any a (fun y_ : Int => sp_meets1 y_ b) (fun y_ : Int => pre_meets1 y_ b)) →
  K r2

def F_disjoint_L1 (a : List Int) (b : List Int) (K : Bool → Prop) (i : Int) (I1 : Int → Prop) (μ1 : Int → Nat) : Prop :=
  ((decide (i < ((a.length : Nat) : Int))) = true →
    (inb a i) ∧
    (pre_has b (gt a i)) ∧
    ∀ r2 : Bool, r2 = (sp_has b (gt a i)) →
    ((r2) = true →
      K false) ∧
    ((r2) = false →
      I1 (IntKind.i64.wrap (i + 1)) ∧
  μ1 (IntKind.i64.wrap (i + 1)) < μ1 i)) ∧
  ((decide (i < ((a.length : Nat) : Int))) = false →
    K true)

def F_disjoint (a : List Int) (b : List Int) (K : Bool → Prop) : Prop :=
  ∃ (I1 : Int → Prop) (μ1 : Int → Nat), I1 0 ∧ ∀ (i : Int), I1 i → F_disjoint_L1 a b K i I1 μ1

def F_operator_J2 (K : Int → Prop) (t32 : Bool) : Prop :=
  ((t32) = true →
    K 3) ∧
  ((t32) = false →
    K 0)

def F_operator_J1 (o : Operator) (K : Int → Prop) (t5 : Bool) : Prop :=
  ((t5) = true →
    K 5) ∧
  ((t5) = false →
    ((decide (o.cost < 0)) = true →
      F_operator_J2 K true) ∧
    ((decide (o.cost < 0)) = false →
      F_operator_J2 K (decide (100 < o.cost))))

def F_operator (o : Operator) (facts : Int) (K : Int → Prop) : Prop :=
  (pre_isSet o.pre facts) ∧
  ∀ r2 : Bool, r2 = (sp_isSet o.pre facts) →
  ((!r2) = true →
    F_operator_J1 o K true) ∧
  ((!r2) = false →
    (pre_isSet o.add facts) ∧
    ∀ r3 : Bool, r3 = (sp_isSet o.add facts) →
    ((!r3) = true →
      F_operator_J1 o K true) ∧
    ((!r3) = false →
      (pre_isSet o.del facts) ∧
      ∀ r4 : Bool, r4 = (sp_isSet o.del facts) →
      ((!r4) = true →
        F_operator_J1 o K true) ∧
      ((!r4) = false →
        (pre_meets o.add o.del) ∧
        ∀ r5 : Bool, r5 = (sp_meets o.add o.del) →
        F_operator_J1 o K r5)))

def F_validate_L1 (t : Task) (K : Fault → Prop) (t41 : Int) (I1 : Int → Prop) (μ1 : Int → Nat) : Prop :=
  ((decide (t41 < ((t.ops.length : Nat) : Int))) = true →
    (inb t.ops t41) ∧
    (pre_operator (gt t.ops t41) t.facts) ∧
    ∀ r4 : Int, r4 = (sp_operator (gt t.ops t41) t.facts) →
    ((r4 != 0) = true →
      K (⟨r4, t41⟩ : Fault)) ∧
    ((r4 != 0) = false →
      I1 (IntKind.i64.wrap (t41 + 1)) ∧
  μ1 (IntKind.i64.wrap (t41 + 1)) < μ1 t41)) ∧
  ((decide (t41 < ((t.ops.length : Nat) : Int))) = false →
    K (⟨0, 0⟩ : Fault))

def F_validate_J1 (t : Task) (K : Fault → Prop) (t6 : Bool) : Prop :=
  ((t6) = true →
    K (⟨3, (-1)⟩ : Fault)) ∧
  ((t6) = false →
    (pre_isSet t.init t.facts) ∧
    ∀ r2 : Bool, r2 = (sp_isSet t.init t.facts) →
    ((!r2) = true →
      K (⟨5, (-2)⟩ : Fault)) ∧
    ((!r2) = false →
      (pre_isSet t.goal t.facts) ∧
      ∀ r3 : Bool, r3 = (sp_isSet t.goal t.facts) →
      ((!r3) = true →
        K (⟨5, (-3)⟩ : Fault)) ∧
      ((!r3) = false →
        ((decide (40 < ((t.ops.length : Nat) : Int))) = true →
          K (⟨2, (-1)⟩ : Fault)) ∧
        ((decide (40 < ((t.ops.length : Nat) : Int))) = false →
          ∃ (I1 : Int → Prop) (μ1 : Int → Nat), I1 0 ∧ ∀ (t41 : Int), I1 t41 → F_validate_L1 t K t41 I1 μ1))))

def F_validate (t : Task) (K : Fault → Prop) : Prop :=
  ((decide (t.facts < 0)) = true →
    F_validate_J1 t K true) ∧
  ((decide (t.facts < 0)) = false →
    F_validate_J1 t K (decide (24 < t.facts)))

def F_taskFault_J1 (t : Task) (K : Fault → Prop) (t70 : Bool) (i : Int) (I1 : Int → Prop) (μ1 : Int → Nat) : Prop :=
  ((t70) = true →
    ∀ r9 : Fault, r9 = (sp_at_ 5 i) →
    K r9) ∧
  ((t70) = false →
    ∀ r10 : Bool, r10 = (sp_in_ ((gt t.ops i).cost) 0 100) →
    ((!r10) = true →
      ∀ r11 : Fault, r11 = (sp_at_ 3 i) →
      K r11) ∧
    ((!r10) = false →
      I1 (IntKind.i64.wrap (i + 1)) ∧
  μ1 (IntKind.i64.wrap (i + 1)) < μ1 i))

def F_taskFault_L1 (t : Task) (K : Fault → Prop) (i : Int) (I1 : Int → Prop) (μ1 : Int → Nat) : Prop :=
  ((decide (i < ((t.ops.length : Nat) : Int))) = true →
    (inb t.ops i) ∧
    (pre_isSet ((gt t.ops i).pre) t.facts) ∧
    ∀ r12 : Bool, r12 = (sp_isSet ((gt t.ops i).pre) t.facts) →
    ((!r12) = true →
      F_taskFault_J1 t K true i I1 μ1) ∧
    ((!r12) = false →
      (pre_isSet ((gt t.ops i).add) t.facts) ∧
      ∀ r13 : Bool, r13 = (sp_isSet ((gt t.ops i).add) t.facts) →
      ((!r13) = true →
        F_taskFault_J1 t K true i I1 μ1) ∧
      ((!r13) = false →
        (pre_isSet ((gt t.ops i).del) t.facts) ∧
        ∀ r14 : Bool, r14 = (sp_isSet ((gt t.ops i).del) t.facts) →
        ((!r14) = true →
          F_taskFault_J1 t K true i I1 μ1) ∧
        ((!r14) = false →
          (pre_disjoint ((gt t.ops i).add) ((gt t.ops i).del)) ∧
          ∀ r15 : Bool, r15 = (sp_disjoint ((gt t.ops i).add) ((gt t.ops i).del)) →
          F_taskFault_J1 t K (!r15) i I1 μ1)))) ∧
  ((decide (i < ((t.ops.length : Nat) : Int))) = false →
    K (⟨0, 0⟩ : Fault))

def F_taskFault (t : Task) (K : Fault → Prop) : Prop :=
  ∀ r2 : Bool, r2 = (sp_in_ t.facts 0 24) →
  ((!r2) = true →
    ∀ r3 : Fault, r3 = (sp_at_ 3 (-1)) →
    K r3) ∧
  ((!r2) = false →
    (pre_isSet t.init t.facts) ∧
    ∀ r4 : Bool, r4 = (sp_isSet t.init t.facts) →
    ((!r4) = true →
      ∀ r5 : Fault, r5 = (sp_at_ 5 (-2)) →
      K r5) ∧
    ((!r4) = false →
      (pre_isSet t.goal t.facts) ∧
      ∀ r6 : Bool, r6 = (sp_isSet t.goal t.facts) →
      ((!r6) = true →
        ∀ r7 : Fault, r7 = (sp_at_ 5 (-3)) →
        K r7) ∧
      ((!r6) = false →
        ((decide (40 < ((t.ops.length : Nat) : Int))) = true →
          ∀ r8 : Fault, r8 = (sp_at_ 2 (-1)) →
          K r8) ∧
        ((decide (40 < ((t.ops.length : Nat) : Int))) = false →
          ∃ (I1 : Int → Prop) (μ1 : Int → Nat), I1 0 ∧ ∀ (i : Int), I1 i → F_taskFault_L1 t K i I1 μ1))))

def F_steps_J1 (K : Fault → Prop) (t23 : Bool) (t13 : Int) (I1 : Int → Prop) (μ1 : Int → Nat) : Prop :=
  ((t23) = true →
    K (⟨3, (-6)⟩ : Fault)) ∧
  ((t23) = false →
    I1 (IntKind.i64.wrap (t13 + 1)) ∧
  μ1 (IntKind.i64.wrap (t13 + 1)) < μ1 t13)

def F_steps_L1 (operators : Int) (plan : List Int) (K : Fault → Prop) (t13 : Int) (I1 : Int → Prop) (μ1 : Int → Nat) : Prop :=
  ((decide (t13 < ((plan.length : Nat) : Int))) = true →
    (inb plan t13) ∧
    ((decide ((gt plan t13) < 0)) = true →
      F_steps_J1 K true t13 I1 μ1) ∧
    ((decide ((gt plan t13) < 0)) = false →
      F_steps_J1 K (decide (operators ≤ (gt plan t13))) t13 I1 μ1)) ∧
  ((decide (t13 < ((plan.length : Nat) : Int))) = false →
    K (⟨0, 0⟩ : Fault))

def F_steps (operators : Int) (plan : List Int) (K : Fault → Prop) : Prop :=
  ((decide (60 < ((plan.length : Nat) : Int))) = true →
    K (⟨2, (-5)⟩ : Fault)) ∧
  ((decide (60 < ((plan.length : Nat) : Int))) = false →
    ∃ (I1 : Int → Prop) (μ1 : Int → Nat), I1 0 ∧ ∀ (t13 : Int), I1 t13 → F_steps_L1 operators plan K t13 I1 μ1)

def F_stepsFault_L1 (operators : Int) (plan : List Int) (K : Fault → Prop) (i : Int) (I1 : Int → Prop) (μ1 : Int → Nat) : Prop :=
  ((decide (i < ((plan.length : Nat) : Int))) = true →
    (inb plan i) ∧
    ∀ r3 : Bool, r3 = (sp_in_ (gt plan i) 0 (IntKind.i64.wrap (operators - 1))) →
    ((!r3) = true →
      ∀ r4 : Fault, r4 = (sp_at_ 3 (-6)) →
      K r4) ∧
    ((!r3) = false →
      I1 (IntKind.i64.wrap (i + 1)) ∧
  μ1 (IntKind.i64.wrap (i + 1)) < μ1 i)) ∧
  ((decide (i < ((plan.length : Nat) : Int))) = false →
    K (⟨0, 0⟩ : Fault))

def F_stepsFault (operators : Int) (plan : List Int) (K : Fault → Prop) : Prop :=
  ((decide (60 < ((plan.length : Nat) : Int))) = true →
    ∀ r2 : Fault, r2 = (sp_at_ 2 (-5)) →
    K r2) ∧
  ((decide (60 < ((plan.length : Nat) : Int))) = false →
    ∃ (I1 : Int → Prop) (μ1 : Int → Nat), I1 0 ∧ ∀ (i : Int), I1 i → F_stepsFault_L1 operators plan K i I1 μ1)

def F_subset_L1 (part : List Int) (l : List Int) (K : Bool → Prop) (i : Int) (I1 : Int → Prop) (μ1 : Int → Nat) : Prop :=
  ((decide (i < ((part.length : Nat) : Int))) = true →
    (inb part i) ∧
    (pre_has l (gt part i)) ∧
    ∀ r2 : Bool, r2 = (sp_has l (gt part i)) →
    ((!r2) = true →
      K false) ∧
    ((!r2) = false →
      I1 (IntKind.i64.wrap (i + 1)) ∧
  μ1 (IntKind.i64.wrap (i + 1)) < μ1 i)) ∧
  ((decide (i < ((part.length : Nat) : Int))) = false →
    K true)

def F_subset (part : List Int) (l : List Int) (K : Bool → Prop) : Prop :=
  ∃ (I1 : Int → Prop) (μ1 : Int → Nat), I1 0 ∧ ∀ (i : Int), I1 i → F_subset_L1 part l K i I1 μ1

def F_applies (t : Task) (s_ : List Int) (op : Int) (K : Bool → Prop) : Prop :=
  (inb t.ops op) ∧
  (pre_subset ((gt t.ops op).pre) s_) ∧
  ∀ r2 : Bool, r2 = (sp_subset ((gt t.ops op).pre) s_) →
  K r2

def F_after_J1 (out : List Int) (p : Int) (I1 : Int → (List Int) → Prop) (μ1 : Int → (List Int) → Nat) (out3 : List Int) : Prop :=
  I1 (IntKind.i64.wrap (p + 1)) out3 ∧
  μ1 (IntKind.i64.wrap (p + 1)) out3 < μ1 p out

def F_after_J2 (t38 : Bool) (out : List Int) (p : Int) (I1 : Int → (List Int) → Prop) (μ1 : Int → (List Int) → Nat) : Prop :=
  ((t38) = true →
    (room ((out ++ ([p] : List Int))).length 8) ∧
    F_after_J1 out p I1 μ1 (out ++ ([p] : List Int))) ∧
  ((t38) = false →
    F_after_J1 out p I1 μ1 out)

def F_after_L1 (t : Task) (s_ : List Int) (op : Int) (K : (List Int) → Prop) (out : List Int) (p : Int) (I1 : Int → (List Int) → Prop) (μ1 : Int → (List Int) → Nat) : Prop :=
  ((decide (p < t.facts)) = true →
    (inb t.ops op) ∧
    (pre_has ((gt t.ops op).add) p) ∧
    ∀ r2 : Bool, r2 = (sp_has ((gt t.ops op).add) p) →
    ((r2) = true →
      F_after_J2 true out p I1 μ1) ∧
    ((r2) = false →
      (pre_has s_ p) ∧
      ∀ r3 : Bool, r3 = (sp_has s_ p) →
      ((r3) = true →
        (pre_has ((gt t.ops op).del) p) ∧
        ∀ r4 : Bool, r4 = (sp_has ((gt t.ops op).del) p) →
        F_after_J2 (!r4) out p I1 μ1) ∧
      ((r3) = false →
        F_after_J2 false out p I1 μ1))) ∧
  ((decide (p < t.facts)) = false →
    K out)

def F_after (t : Task) (s_ : List Int) (op : Int) (K : (List Int) → Prop) : Prop :=
  ∃ (I1 : Int → (List Int) → Prop) (μ1 : Int → (List Int) → Nat), I1 0 ([] : List Int) ∧ ∀ (p : Int) (out : List Int), I1 p out → F_after_L1 t s_ op K out p I1 μ1

def F_ends_L1 (t : Task) (plan : List Int) (K : (List Int × Bool) → Prop) (s_2 : List Int) (i : Int) (I1 : (List Int) → Int → Prop) (μ1 : (List Int) → Int → Nat) : Prop :=
  ((decide (i < ((plan.length : Nat) : Int))) = true →
    (inb plan i) ∧
    (pre_applies t s_2 (gt plan i)) ∧
    ∀ r2 : Bool, r2 = (sp_applies t s_2 (gt plan i)) →
    ((!r2) = true →
      K (([] : List Int), false)) ∧
    ((!r2) = false →
      (pre_after t s_2 (gt plan i)) ∧
      ∀ r3 : List Int, r3 = (sp_after t s_2 (gt plan i)) →
      I1 r3 (IntKind.i64.wrap (i + 1)) ∧
  μ1 r3 (IntKind.i64.wrap (i + 1)) < μ1 s_2 i)) ∧
  ((decide (i < ((plan.length : Nat) : Int))) = false →
    K (s_2, true))

def F_ends (t : Task) (s_ : List Int) (plan : List Int) (K : (List Int × Bool) → Prop) : Prop :=
  ∃ (I1 : (List Int) → Int → Prop) (μ1 : (List Int) → Int → Nat), I1 s_ 0 ∧ ∀ (s_2 : List Int) (i : Int), I1 s_2 i → F_ends_L1 t plan K s_2 i I1 μ1

def F_rworks (t : Task) (s_ : List Int) (plan : List Int) (K : Bool → Prop) : Prop :=
  (pre_ends t s_ plan) ∧
  ∀ r2 : List Int × Bool, r2 = (sp_ends t s_ plan) →
  ((r2.2) = true →
    (pre_subset t.goal r2.1) ∧
    ∀ r3 : Bool, r3 = (sp_subset t.goal r2.1) →
    K r3) ∧
  ((r2.2) = false →
    K false)

def F_clone (s_ : List Int) (K : (List Int) → Prop) : Prop :=
  (s_ = [] → 
    K ([] : List Int)) ∧
  (room ((([] : List Int) ++ s_)).length 8) ∧
  K (([] : List Int) ++ s_)

def F_update_J1 (out : List Int) (t14 : Int) (I1 : Int → (List Int) → Prop) (μ1 : Int → (List Int) → Nat) (out3 : List Int) : Prop :=
  I1 (IntKind.i64.wrap (t14 + 1)) out3 ∧
  μ1 (IntKind.i64.wrap (t14 + 1)) out3 < μ1 t14 out

def F_update_L1 (s_ : List Int) (add : List Int) (del : List Int) (K : (List Int) → Prop) (out : List Int) (t14 : Int) (I1 : Int → (List Int) → Prop) (μ1 : Int → (List Int) → Nat) : Prop :=
  ((decide (t14 < ((s_.length : Nat) : Int))) = true →
    (inb s_ t14) ∧
    (pre_bsearch del (gt s_ t14)) ∧
    ∀ r2 : Int × Bool, r2 = (sp_bsearch del (gt s_ t14)) →
    ((!r2.2) = true →
      (room ((out ++ ([(gt s_ t14)] : List Int))).length 8) ∧
      F_update_J1 out t14 I1 μ1 (out ++ ([(gt s_ t14)] : List Int))) ∧
    ((!r2.2) = false →
      F_update_J1 out t14 I1 μ1 out)) ∧
  ((decide (t14 < ((s_.length : Nat) : Int))) = false →
    (room ((out ++ add)).length 8) ∧
    (pre_sort (out ++ add)) ∧
    ∀ r3 : List Int, r3 = (sp_sort (out ++ add)) →
    (pre_compact r3) ∧
    ∀ r4 : List Int, r4 = (sp_compact r3) →
    K r4)

def F_update (s_ : List Int) (add : List Int) (del : List Int) (K : (List Int) → Prop) : Prop :=
  ∃ (I1 : Int → (List Int) → Prop) (μ1 : Int → (List Int) → Nat), I1 0 ([] : List Int) ∧ ∀ (t14 : Int) (out : List Int), I1 t14 out → F_update_L1 s_ add del K out t14 I1 μ1

def F_contains2_J2 (K : Bool → Prop) (i : Int) (t39 : Bool) (t10 : Int) (i3 : Int) (I1 : Int → Int → Prop) (μ1 : Int → Int → Nat) : Prop :=
  ((t39) = true →
    K false) ∧
  ((t39) = false →
    I1 i3 (IntKind.i64.wrap (t10 + 1)) ∧
  μ1 i3 (IntKind.i64.wrap (t10 + 1)) < μ1 i t10)

def F_contains2_J1 (s_ : List Int) (part : List Int) (K : Bool → Prop) (t25 : Bool) (i : Int) (I2 : Int → Prop) (μ2 : Int → Nat) (t10 : Int) (i3 : Int) (I1 : Int → Int → Prop) (μ1 : Int → Int → Nat) : Prop :=
  ((t25) = true →
    I2 (IntKind.i64.wrap (i3 + 1)) ∧
  μ2 (IntKind.i64.wrap (i3 + 1)) < μ2 i3) ∧
  ((t25) = false →
    ((i3 == ((s_.length : Nat) : Int)) = true →
      F_contains2_J2 K i true t10 i3 I1 μ1) ∧
    ((i3 == ((s_.length : Nat) : Int)) = false →
      (inb s_ i3) ∧
      F_contains2_J2 K i ((gt s_ i3) != (gt part t10)) t10 i3 I1 μ1))

def F_contains2_L2 (s_ : List Int) (part : List Int) (K : Bool → Prop) (i : Int) (I2 : Int → Prop) (μ2 : Int → Nat) (t10 : Int) (i3 : Int) (I1 : Int → Int → Prop) (μ1 : Int → Int → Nat) : Prop :=
  ((decide (i3 < ((s_.length : Nat) : Int))) = true →
    (inb s_ i3) ∧
    F_contains2_J1 s_ part K (decide ((gt s_ i3) < (gt part t10))) i I2 μ2 t10 i3 I1 μ1) ∧
  ((decide (i3 < ((s_.length : Nat) : Int))) = false →
    F_contains2_J1 s_ part K false i I2 μ2 t10 i3 I1 μ1)

def F_contains2_L1 (s_ : List Int) (part : List Int) (K : Bool → Prop) (i : Int) (t10 : Int) (I1 : Int → Int → Prop) (μ1 : Int → Int → Nat) : Prop :=
  ((decide (t10 < ((part.length : Nat) : Int))) = true →
    (inb part t10) ∧
    ∃ (I2 : Int → Prop) (μ2 : Int → Nat), I2 i ∧ ∀ (i3 : Int), I2 i3 → F_contains2_L2 s_ part K i I2 μ2 t10 i3 I1 μ1) ∧
  ((decide (t10 < ((part.length : Nat) : Int))) = false →
    K true)

def F_contains2 (s_ : List Int) (part : List Int) (K : Bool → Prop) : Prop :=
  ∃ (I1 : Int → Int → Prop) (μ1 : Int → Int → Nat), I1 0 0 ∧ ∀ (i : Int) (t10 : Int), I1 i t10 → F_contains2_L1 s_ part K i t10 I1 μ1

def F_can (t : Task) (s_ : List Int) (op : Int) (K : Bool → Prop) : Prop :=
  (inb t.ops op) ∧
  (pre_contains2 s_ ((gt t.ops op).pre)) ∧
  ∀ r2 : Bool, r2 = (sp_contains2 s_ ((gt t.ops op).pre)) →
  K r2

def F_next (t : Task) (s_ : List Int) (op : Int) (K : (List Int) → Prop) : Prop :=
  (inb t.ops op) ∧
  (pre_update s_ ((gt t.ops op).add) ((gt t.ops op).del)) ∧
  ∀ r2 : List Int, r2 = (sp_update s_ ((gt t.ops op).add) ((gt t.ops op).del)) →
  K r2

def F_srun_L1 (t : Task) (plan : List Int) (K : (List (List Int)) → Prop) (s_2 : List Int) (t15 : Int) (out : List (List Int)) (I1 : (List Int) → Int → (List (List Int)) → Prop) (μ1 : (List Int) → Int → (List (List Int)) → Nat) : Prop :=
  ((decide (t15 < ((plan.length : Nat) : Int))) = true →
    (inb plan t15) ∧
    (pre_can t s_2 (gt plan t15)) ∧
    ∀ r3 : Bool, r3 = (sp_applies t s_2 (gt plan t15)) →
    ((!r3) = true →
      K out) ∧
    ((!r3) = false →
      (pre_next t s_2 (gt plan t15)) ∧
      ∀ r4 : List Int, r4 = (sp_after t s_2 (gt plan t15)) →
      (room ((out ++ ([r4] : List (List Int)))).length 24) ∧
      I1 r4 (IntKind.i64.wrap (t15 + 1)) (out ++ ([r4] : List (List Int))) ∧
  μ1 r4 (IntKind.i64.wrap (t15 + 1)) (out ++ ([r4] : List (List Int))) < μ1 s_2 t15 out)) ∧
  ((decide (t15 < ((plan.length : Nat) : Int))) = false →
    K out)

def F_srun (t : Task) (s_ : List Int) (plan : List Int) (K : (List (List Int)) → Prop) : Prop :=
  (pre_clone s_) ∧
  ∀ r2 : List Int, r2 = (sp_clone s_) →
  ∃ (I1 : (List Int) → Int → (List (List Int)) → Prop) (μ1 : (List Int) → Int → (List (List Int)) → Nat), I1 s_ 0 ([r2] : List (List Int)) ∧ ∀ (s_2 : List Int) (t15 : Int) (out : List (List Int)), I1 s_2 t15 out → F_srun_L1 t plan K s_2 t15 out I1 μ1

def F_works (t : Task) (s_ : List Int) (plan : List Int) (K : Bool → Prop) : Prop :=
  (pre_srun t s_ plan) ∧
  ∀ r2 : List (List Int), r2 = (sp_srun t s_ plan) →
  ∀ x : Bool, x = (((r2.length : Nat) : Int) == (IntKind.i64.wrap (((plan.length : Nat) : Int) + 1))) →
  ((x) = true →
    (inb r2 ((plan.length : Nat) : Int)) ∧
    (pre_contains2 (gt r2 ((plan.length : Nat) : Int)) t.goal) ∧
    ∀ r3 : Bool, r3 = (sp_contains2 (gt r2 ((plan.length : Nat) : Int)) t.goal) →
    K r3) ∧
  ((x) = false →
    K false)

def F_compare (x : Int) (y : Int) (K : Int → Prop) : Prop :=
  ∀ r2 : Bool, r2 = (sp_isNaN1 x) →
  ∀ r3 : Bool, r3 = (sp_isNaN1 y) →
  ((r2) = true →
    ((r3) = true →
      K 0) ∧
    ((r3) = false →
      K (-1))) ∧
  ((r2) = false →
    ((r3) = true →
      K 1) ∧
    ((r3) = false →
      ((decide (x < y)) = true →
        K (-1)) ∧
      ((decide (x < y)) = false →
        ((decide (y < x)) = true →
          K 1) ∧
        ((decide (y < x)) = false →
          K 0))))

def F_changed_J1 (out : List Int) (p : Int) (I1 : Int → (List Int) → Prop) (μ1 : Int → (List Int) → Nat) (out3 : List Int) : Prop :=
  I1 (IntKind.i64.wrap (p + 1)) out3 ∧
  μ1 (IntKind.i64.wrap (p + 1)) out3 < μ1 p out

def F_changed_J2 (t29 : Bool) (out : List Int) (p : Int) (I1 : Int → (List Int) → Prop) (μ1 : Int → (List Int) → Nat) : Prop :=
  ((t29) = true →
    (room ((out ++ ([p] : List Int))).length 8) ∧
    F_changed_J1 out p I1 μ1 (out ++ ([p] : List Int))) ∧
  ((t29) = false →
    F_changed_J1 out p I1 μ1 out)

def F_changed_L1 (facts : Int) (s_ : List Int) (add : List Int) (del : List Int) (K : (List Int) → Prop) (out : List Int) (p : Int) (I1 : Int → (List Int) → Prop) (μ1 : Int → (List Int) → Nat) : Prop :=
  ((decide (p < facts)) = true →
    (pre_has add p) ∧
    ∀ r2 : Bool, r2 = (sp_has add p) →
    ((r2) = true →
      F_changed_J2 true out p I1 μ1) ∧
    ((r2) = false →
      (pre_has s_ p) ∧
      ∀ r3 : Bool, r3 = (sp_has s_ p) →
      ((r3) = true →
        (pre_has del p) ∧
        ∀ r4 : Bool, r4 = (sp_has del p) →
        F_changed_J2 (!r4) out p I1 μ1) ∧
      ((r3) = false →
        F_changed_J2 false out p I1 μ1))) ∧
  ((decide (p < facts)) = false →
    K out)

def F_changed (facts : Int) (s_ : List Int) (add : List Int) (del : List Int) (K : (List Int) → Prop) : Prop :=
  ∃ (I1 : Int → (List Int) → Prop) (μ1 : Int → (List Int) → Nat), I1 0 ([] : List Int) ∧ ∀ (p : Int) (out : List Int), I1 p out → F_changed_L1 facts s_ add del K out p I1 μ1

def F_key_L2 (l : List (List Int)) (t16 : Int) (b : List UInt8) (I2 : Int → (List UInt8) → Prop) (μ2 : Int → (List UInt8) → Nat) (t10 : Int) (b3 : List UInt8) (I1 : Int → (List UInt8) → Prop) (μ1 : Int → (List UInt8) → Nat) : Prop :=
  ((decide (t16 < (((gt l t10).length : Nat) : Int))) = true →
    (inb (gt l t10) t16) ∧
    (-9223372036854775808 ≤ (gt (gt l t10) t16) ∧ (gt (gt l t10) t16) ≤ 9223372036854775807) ∧
    (b3.length + 21 ≤ 140737488355328) ∧
    (room (((b3 ++ Lib.itoa (gt (gt l t10) t16)) ++ ([44] : List UInt8))).length 1) ∧
    I2 (IntKind.i64.wrap (t16 + 1)) ((b3 ++ Lib.itoa (gt (gt l t10) t16)) ++ ([44] : List UInt8)) ∧
  μ2 (IntKind.i64.wrap (t16 + 1)) ((b3 ++ Lib.itoa (gt (gt l t10) t16)) ++ ([44] : List UInt8)) < μ2 t16 b3) ∧
  ((decide (t16 < (((gt l t10).length : Nat) : Int))) = false →
    (room ((b3 ++ ([59] : List UInt8))).length 1) ∧
    I1 (IntKind.i64.wrap (t10 + 1)) (b3 ++ ([59] : List UInt8)) ∧
  μ1 (IntKind.i64.wrap (t10 + 1)) (b3 ++ ([59] : List UInt8)) < μ1 t10 b)

def F_key_L1 (l : List (List Int)) (K : (List UInt8) → Prop) (b : List UInt8) (t10 : Int) (I1 : Int → (List UInt8) → Prop) (μ1 : Int → (List UInt8) → Nat) : Prop :=
  ((decide (t10 < ((l.length : Nat) : Int))) = true →
    (inb l t10) ∧
    ∃ (I2 : Int → (List UInt8) → Prop) (μ2 : Int → (List UInt8) → Nat), I2 0 b ∧ ∀ (t16 : Int) (b3 : List UInt8), I2 t16 b3 → F_key_L2 l t16 b I2 μ2 t10 b3 I1 μ1) ∧
  ((decide (t10 < ((l.length : Nat) : Int))) = false →
    K b)

def F_key (l : List (List Int)) (K : (List UInt8) → Prop) : Prop :=
  ∃ (I1 : Int → (List UInt8) → Prop) (μ1 : Int → (List UInt8) → Nat), I1 0 ([] : List UInt8) ∧ ∀ (t10 : Int) (b : List UInt8), I1 t10 b → F_key_L1 l K b t10 I1 μ1

def F_scompare_L1 (s1 : List Int) (s2 : List Int) (K : Int → Prop) (t11 : Int) (I1 : Int → Prop) (μ1 : Int → Nat) : Prop :=
  ((decide (t11 < ((s1.length : Nat) : Int))) = true →
    (inb s1 t11) ∧
    ((decide (((s2.length : Nat) : Int) ≤ t11)) = true →
      K 1) ∧
    ((decide (((s2.length : Nat) : Int) ≤ t11)) = false →
      (inb s2 t11) ∧
      ∀ r2 : Int, r2 = (sp_compare (gt s1 t11) (gt s2 t11)) →
      ((r2 != 0) = true →
        K r2) ∧
      ((r2 != 0) = false →
        I1 (IntKind.i64.wrap (t11 + 1)) ∧
  μ1 (IntKind.i64.wrap (t11 + 1)) < μ1 t11))) ∧
  ((decide (t11 < ((s1.length : Nat) : Int))) = false →
    ((decide (((s1.length : Nat) : Int) < ((s2.length : Nat) : Int))) = true →
      K (-1)) ∧
    ((decide (((s1.length : Nat) : Int) < ((s2.length : Nat) : Int))) = false →
      K 0))

def F_scompare (s1 : List Int) (s2 : List Int) (K : Int → Prop) : Prop :=
  ∃ (I1 : Int → Prop) (μ1 : Int → Nat), I1 0 ∧ ∀ (t11 : Int), I1 t11 → F_scompare_L1 s1 s2 K t11 I1 μ1

def F_sequal_L1 (s1 : List Int) (s2 : List Int) (K : Bool → Prop) (t13 : Int) (I1 : Int → Prop) (μ1 : Int → Nat) : Prop :=
  ((decide (t13 < ((s1.length : Nat) : Int))) = true →
    (inb s1 t13) ∧
    (inb s2 t13) ∧
    (((gt s1 t13) != (gt s2 t13)) = true →
      K false) ∧
    (((gt s1 t13) != (gt s2 t13)) = false →
      I1 (IntKind.i64.wrap (t13 + 1)) ∧
  μ1 (IntKind.i64.wrap (t13 + 1)) < μ1 t13)) ∧
  ((decide (t13 < ((s1.length : Nat) : Int))) = false →
    K true)

def F_sequal (s1 : List Int) (s2 : List Int) (K : Bool → Prop) : Prop :=
  ((((s1.length : Nat) : Int) != ((s2.length : Nat) : Int)) = true →
    K false) ∧
  ((((s1.length : Nat) : Int) != ((s2.length : Nat) : Int)) = false →
    ∃ (I1 : Int → Prop) (μ1 : Int → Nat), I1 0 ∧ ∀ (t13 : Int), I1 t13 → F_sequal_L1 s1 s2 K t13 I1 μ1)

def F_indexR_L1 (s_ : List (List Int)) (pf : (List Int) → Bool) (Df : (List Int) → Prop) (K : Int → Prop) (t8 : Int) (I1 : Int → Prop) (μ1 : Int → Nat) : Prop :=
  ((decide (t8 < ((s_.length : Nat) : Int))) = true →
    (inb s_ t8) ∧
    (Df (gt s_ t8)) ∧
    ∀ r2 : Bool, r2 = (pf (gt s_ t8)) →
    ((r2) = true →
      K t8) ∧
    ((r2) = false →
      I1 (IntKind.i64.wrap (t8 + 1)) ∧
  μ1 (IntKind.i64.wrap (t8 + 1)) < μ1 t8)) ∧
  ((decide (t8 < ((s_.length : Nat) : Int))) = false →
    K (-1))

def F_indexR (s_ : List (List Int)) (pf : (List Int) → Bool) (Df : (List Int) → Prop) (K : Int → Prop) : Prop :=
  ∃ (I1 : Int → Prop) (μ1 : Int → Nat), I1 0 ∧ ∀ (t8 : Int), I1 t8 → F_indexR_L1 s_ pf Df K t8 I1 μ1

def F_containsR (s_ : List (List Int)) (pf : (List Int) → Bool) (Df : (List Int) → Prop) (K : Bool → Prop) : Prop :=
  (pre_any s_ pf Df) ∧
  ∀ r2 : Int, r2 = (sp_indexF s_ pf Df) →
  K (decide (0 ≤ r2))

def F_reverse_L1 (K : (List Int) → Prop) (i : Int) (j : Int) (s_2 : List Int) (I1 : Int → Int → (List Int) → Prop) (μ1 : Int → Int → (List Int) → Nat) : Prop :=
  ((decide (i < j)) = true →
    (inb s_2 j) ∧
    (inb s_2 i) ∧
    ∀ d : List Int, d = (s_2.set (i).toNat (gt s_2 j)) →
    (inb d j) ∧
    ∀ d2 : List Int, d2 = (d.set (j).toNat (gt s_2 i)) →
    I1 (IntKind.i64.wrap (i + 1)) (IntKind.i64.wrap (j - 1)) d2 ∧
  μ1 (IntKind.i64.wrap (i + 1)) (IntKind.i64.wrap (j - 1)) d2 < μ1 i j s_2) ∧
  ((decide (i < j)) = false →
    K s_2)

def F_reverse (s_ : List Int) (K : (List Int) → Prop) : Prop :=
  ∃ (I1 : Int → Int → (List Int) → Prop) (μ1 : Int → Int → (List Int) → Nat), I1 0 (IntKind.i64.wrap (((s_.length : Nat) : Int) - 1)) s_ ∧ ∀ (i : Int) (j : Int) (s_2 : List Int), I1 i j s_2 → F_reverse_L1 K i j s_2 I1 μ1

def F_unknownFault (t : Task) (unknown : List Int) (K : Fault → Prop) : Prop :=
  ∀ r2 : Fault, r2 = (sp_validate t) →
  ((!((r2.code == 0) && (r2.index == 0))) = true →
    K r2) ∧
  ((!((r2.code == 0) && (r2.index == 0))) = false →
    ((decide (4 < ((unknown.length : Nat) : Int))) = true →
      K (⟨2, (-8)⟩ : Fault)) ∧
    ((decide (4 < ((unknown.length : Nat) : Int))) = false →
      (pre_isSet unknown t.facts) ∧
      ∀ r3 : Bool, r3 = (sp_isSet unknown t.facts) →
      ((!r3) = true →
        K (⟨5, (-8)⟩ : Fault)) ∧
      ((!r3) = false →
        K (⟨0, 0⟩ : Fault))))

def F_sure1 (s_ : List Int) (x : List Int) (K : Bool → Prop) : Prop :=
  (pre_contains2 s_ x) ∧
  ∀ r2 : Bool, r2 = (sp_contains2 s_ x) →
  K (!r2)

def F_sure (worlds : List (List Int)) (facts : List Int) (K : Bool → Prop) : Prop :=
  (pre_any worlds (fun y_ : List Int => sp_sure1 y_ facts) (fun y_ : List Int => pre_sure1 y_ facts)) ∧
  ∀ r2 : Bool, r2 = (sp_any worlds (fun y_ : List Int => sp_sure1 y_ facts) (fun y_ : List Int => pre_sure1 y_ facts)) →
  K (!r2)

def F_compactR_J1 (s_2 : List (List Int)) (k3 : Int) (k22 : Int) (I2 : Int → Int → (List (List Int)) → Prop) (μ2 : Int → Int → (List (List Int)) → Nat) (s_4 : List (List Int)) (k5 : Int) : Prop :=
  I2 k5 (IntKind.i64.wrap (k22 + 1)) s_4 ∧
  μ2 k5 (IntKind.i64.wrap (k22 + 1)) s_4 < μ2 k3 k22 s_2

def F_compactR_L2 (s_ : List (List Int)) (K : (List (List Int)) → Prop) (k : Int) (s_2 : List (List Int)) (k3 : Int) (k22 : Int) (I2 : Int → Int → (List (List Int)) → Prop) (μ2 : Int → Int → (List (List Int)) → Nat) : Prop :=
  ((decide (k22 < (((s_.length - (k).toNat) : Nat) : Int))) = true →
    (0 ≤ k22) ∧
    (inb s_2 ((((k).toNat : Nat) : Int) + k22)) ∧
    (0 ≤ (IntKind.i64.wrap (k22 - 1))) ∧
    (inb s_2 ((((k).toNat : Nat) : Int) + (IntKind.i64.wrap (k22 - 1)))) ∧
    (pre_sequal (gt s_2 ((((k).toNat : Nat) : Int) + k22)) (gt s_2 ((((k).toNat : Nat) : Int) + (IntKind.i64.wrap (k22 - 1))))) ∧
    ∀ r3 : Bool, r3 = (sp_sequal (gt s_2 ((((k).toNat : Nat) : Int) + k22)) (gt s_2 ((((k).toNat : Nat) : Int) + (IntKind.i64.wrap (k22 - 1))))) →
    ((!r3) = true →
      (inb s_2 k3) ∧
      ∀ d : List (List Int), d = (s_2.set (k3).toNat (gt s_2 ((((k).toNat : Nat) : Int) + k22))) →
      F_compactR_J1 s_2 k3 k22 I2 μ2 d (IntKind.i64.wrap (k3 + 1))) ∧
    ((!r3) = false →
      F_compactR_J1 s_2 k3 k22 I2 μ2 s_2 k3)) ∧
  ((decide (k22 < (((s_.length - (k).toNat) : Nat) : Int))) = false →
    (0 ≤ k3 ∧ k3 ≤ ((s_.length : Nat) : Int)) ∧
    K ((s_2.take (k3).toNat ++ List.replicate (s_.length - (k3).toNat) []).take ((k3).toNat)))

def F_compactR_L1 (s_ : List (List Int)) (K : (List (List Int)) → Prop) (k : Int) (I1 : Int → Prop) (μ1 : Int → Nat) : Prop :=
  ((decide (k < ((s_.length : Nat) : Int))) = true →
    (inb s_ k) ∧
    (inb s_ (IntKind.i64.wrap (k - 1))) ∧
    (pre_sequal (gt s_ k) (gt s_ (IntKind.i64.wrap (k - 1)))) ∧
    ∀ r2 : Bool, r2 = (sp_sequal (gt s_ k) (gt s_ (IntKind.i64.wrap (k - 1)))) →
    ((r2) = true →
      (0 ≤ k ∧ k ≤ ((s_.length : Nat) : Int)) ∧
      ∃ (I2 : Int → Int → (List (List Int)) → Prop) (μ2 : Int → Int → (List (List Int)) → Nat), I2 k 1 s_ ∧ ∀ (k3 : Int) (k22 : Int) (s_2 : List (List Int)), I2 k3 k22 s_2 → F_compactR_L2 s_ K k s_2 k3 k22 I2 μ2) ∧
    ((r2) = false →
      I1 (IntKind.i64.wrap (k + 1)) ∧
  μ1 (IntKind.i64.wrap (k + 1)) < μ1 k)) ∧
  ((decide (k < ((s_.length : Nat) : Int))) = false →
    K s_)

def F_compactR (s_ : List (List Int)) (K : (List (List Int)) → Prop) : Prop :=
  ((decide (((s_.length : Nat) : Int) < 2)) = true →
    K s_) ∧
  ((decide (((s_.length : Nat) : Int) < 2)) = false →
    ∃ (I1 : Int → Prop) (μ1 : Int → Nat), I1 1 ∧ ∀ (k : Int), I1 k → F_compactR_L1 s_ K k I1 μ1)

def F_normal (l : List (List Int)) (K : (List (List Int)) → Prop) : Prop :=
  (pre_sortR l) ∧
  ∀ r2 : List (List Int), r2 = (sp_sortR l) →
  (pre_compactR r2) ∧
  ∀ r3 : List (List Int), r3 = (sp_compactR r2) →
  K r3

def F_worlds_J1 (add : List Int) (t18 : Int) (I2 : Int → (List Int) → Prop) (μ2 : Int → (List Int) → Nat) (add3 : List Int) : Prop :=
  I2 (IntKind.i64.wrap (t18 + 1)) add3 ∧
  μ2 (IntKind.i64.wrap (t18 + 1)) add3 < μ2 t18 add

def F_worlds_L2 (t : Task) (unknown : List Int) (add : List Int) (t18 : Int) (I2 : Int → (List Int) → Prop) (μ2 : Int → (List Int) → Nat) (t13 : Int) (out : List (List Int)) (I1 : Int → (List (List Int)) → Prop) (μ1 : Int → (List (List Int)) → Nat) : Prop :=
  ((decide (t18 < ((unknown.length : Nat) : Int))) = true →
    (inb unknown t18) ∧
    (0 ≤ t18) ∧
    ∀ x2 : Int, x2 = (bits .and .i64 (Int.fdiv t13 (2 ^ (min ((t18 : Int)).toNat (IntKind.bits .i64)))) 1) →
    ((x2 == 1) = true →
      (room ((add ++ ([(gt unknown t18)] : List Int))).length 8) ∧
      F_worlds_J1 add t18 I2 μ2 (add ++ ([(gt unknown t18)] : List Int))) ∧
    ((x2 == 1) = false →
      F_worlds_J1 add t18 I2 μ2 add)) ∧
  ((decide (t18 < ((unknown.length : Nat) : Int))) = false →
    (pre_update t.init add unknown) ∧
    ∀ r2 : List Int, r2 = (sp_update t.init add unknown) →
    (room ((out ++ ([r2] : List (List Int)))).length 24) ∧
    I1 (IntKind.i64.wrap (t13 + 1)) (out ++ ([r2] : List (List Int))) ∧
  μ1 (IntKind.i64.wrap (t13 + 1)) (out ++ ([r2] : List (List Int))) < μ1 t13 out)

def F_worlds_L1 (t : Task) (unknown : List Int) (K : (List (List Int)) → Prop) (x : Int) (t13 : Int) (out : List (List Int)) (I1 : Int → (List (List Int)) → Prop) (μ1 : Int → (List (List Int)) → Nat) : Prop :=
  ((decide (t13 < x)) = true →
    ∃ (I2 : Int → (List Int) → Prop) (μ2 : Int → (List Int) → Nat), I2 0 ([] : List Int) ∧ ∀ (t18 : Int) (add : List Int), I2 t18 add → F_worlds_L2 t unknown add t18 I2 μ2 t13 out I1 μ1) ∧
  ((decide (t13 < x)) = false →
    (pre_normal out) ∧
    ∀ r3 : List (List Int), r3 = (sp_normal out) →
    K r3)

def F_worlds (t : Task) (unknown : List Int) (K : (List (List Int)) → Prop) : Prop :=
  (0 ≤ ((unknown.length : Nat) : Int)) ∧
  ∀ x : Int, x = (IntKind.i64.wrap (1 * 2 ^ (min ((((unknown.length : Nat) : Int) : Int)).toNat (IntKind.bits .i64)))) →
  ∃ (I1 : Int → (List (List Int)) → Prop) (μ1 : Int → (List (List Int)) → Nat), I1 0 ([] : List (List Int)) ∧ ∀ (t13 : Int) (out : List (List Int)), I1 t13 out → F_worlds_L1 t unknown K x t13 out I1 μ1

def F_initial (t : Task) (unknown : List Int) (K : (List (List Int) × Fault) → Prop) : Prop :=
  ∀ r2 : Fault, r2 = (sp_unknownFault t unknown) →
  ((!((r2.code == 0) && (r2.index == 0))) = true →
    K (([] : List (List Int)), r2)) ∧
  ((!((r2.code == 0) && (r2.index == 0))) = false →
    (pre_worlds t unknown) ∧
    ∀ r3 : List (List Int), r3 = (sp_worlds t unknown) →
    K (r3, (⟨0, 0⟩ : Fault)))

def F_bafter_L1 (t : Task) (worlds : List (List Int)) (op : Int) (K : (List (List Int)) → Prop) (t12 : Int) (out : List (List Int)) (I1 : Int → (List (List Int)) → Prop) (μ1 : Int → (List (List Int)) → Nat) : Prop :=
  ((decide (t12 < ((worlds.length : Nat) : Int))) = true →
    (inb worlds t12) ∧
    (pre_next t (gt worlds t12) op) ∧
    ∀ r2 : List Int, r2 = (sp_after t (gt worlds t12) op) →
    (room ((out ++ ([r2] : List (List Int)))).length 24) ∧
    I1 (IntKind.i64.wrap (t12 + 1)) (out ++ ([r2] : List (List Int))) ∧
  μ1 (IntKind.i64.wrap (t12 + 1)) (out ++ ([r2] : List (List Int))) < μ1 t12 out) ∧
  ((decide (t12 < ((worlds.length : Nat) : Int))) = false →
    (pre_normal out) ∧
    ∀ r3 : List (List Int), r3 = (sp_normal out) →
    K r3)

def F_bafter (t : Task) (worlds : List (List Int)) (op : Int) (K : (List (List Int)) → Prop) : Prop :=
  ∃ (I1 : Int → (List (List Int)) → Prop) (μ1 : Int → (List (List Int)) → Nat), I1 0 ([] : List (List Int)) ∧ ∀ (t12 : Int) (out : List (List Int)), I1 t12 out → F_bafter_L1 t worlds op K t12 out I1 μ1

def F_bsolves1 (s_ : List Int) (x : Task) (x2 : List Int) (K : Bool → Prop) : Prop :=
  (pre_works x s_ x2) ∧
  ∀ r2 : Bool, r2 = (sp_rworks x s_ x2) →
  K (!r2)

def F_bsolves (t : Task) (unknown : List Int) (plan : List Int) (K : (Bool × Fault) → Prop) : Prop :=
  ∀ r2 : Fault, r2 = (sp_unknownFault t unknown) →
  ((!((r2.code == 0) && (r2.index == 0))) = true →
    K (false, r2)) ∧
  ((!((r2.code == 0) && (r2.index == 0))) = false →
    (pre_steps ((t.ops.length : Nat) : Int) plan) ∧
    ∀ r3 : Fault, r3 = (sp_steps ((t.ops.length : Nat) : Int) plan) →
    ((!((r3.code == 0) && (r3.index == 0))) = true →
      K (false, r3)) ∧
    ((!((r3.code == 0) && (r3.index == 0))) = false →
      (pre_worlds t unknown) ∧
      ∀ r4 : List (List Int), r4 = (sp_worlds t unknown) →
      (pre_any r4 (fun y_ : List Int => sp_bsolves1 y_ t plan) (fun y_ : List Int => pre_bsolves1 y_ t plan)) ∧
      ∀ r5 : Bool, r5 = (sp_any r4 (fun y_ : List Int => sp_bsolves1 y_ t plan) (fun y_ : List Int => pre_bsolves1 y_ t plan)) →
      K (!r5, (⟨0, 0⟩ : Fault))))

def F_rUnknownFault_J3 (K : Fault → Prop) (x : Int) (x2 : Int) (t26 : Bool) : Prop :=
  ((t26) = true →
    ∀ r3 : Fault, r3 = (sp_at_ 5 (-8)) →
    K r3) ∧
  ((t26) = false →
    K (⟨x, x2⟩ : Fault))

def F_rUnknownFault_J2 (t : Task) (unknown : List Int) (K : Fault → Prop) (x : Int) (x2 : Int) : Prop :=
  ((x == 0) = true →
    (pre_isSet unknown t.facts) ∧
    ∀ r4 : Bool, r4 = (sp_isSet unknown t.facts) →
    F_rUnknownFault_J3 K x x2 (!r4)) ∧
  ((x == 0) = false →
    F_rUnknownFault_J3 K x x2 false)

def F_rUnknownFault_J1 (t : Task) (unknown : List Int) (K : Fault → Prop) (r2 : Fault) (t15 : Bool) : Prop :=
  ((t15) = true →
    ∀ r5 : Fault, r5 = (sp_at_ 2 (-8)) →
    F_rUnknownFault_J2 t unknown K r5.code r5.index) ∧
  ((t15) = false →
    F_rUnknownFault_J2 t unknown K r2.code r2.index)

def F_rUnknownFault (t : Task) (unknown : List Int) (K : Fault → Prop) : Prop :=
  ∀ r2 : Fault, r2 = (sp_validate t) →
  ((r2.code == 0) = true →
    F_rUnknownFault_J1 t unknown K r2 (decide (4 < ((unknown.length : Nat) : Int)))) ∧
  ((r2.code == 0) = false →
    F_rUnknownFault_J1 t unknown K r2 false)

def F_before_J1 (a : List Int) (b : List Int) (K : Bool → Prop) (t15 : Bool) (i : Int) (I1 : Int → Prop) (μ1 : Int → Nat) : Prop :=
  ((t15) = true →
    (inb a i) ∧
    (inb b i) ∧
    (((gt a i) != (gt b i)) = true →
      K (decide ((gt a i) < (gt b i)))) ∧
    (((gt a i) != (gt b i)) = false →
      I1 (IntKind.i64.wrap (i + 1)) ∧
  μ1 (IntKind.i64.wrap (i + 1)) < μ1 i)) ∧
  ((t15) = false →
    K (decide (((a.length : Nat) : Int) < ((b.length : Nat) : Int))))

def F_before_L1 (a : List Int) (b : List Int) (K : Bool → Prop) (i : Int) (I1 : Int → Prop) (μ1 : Int → Nat) : Prop :=
  ((decide (i < ((a.length : Nat) : Int))) = true →
    F_before_J1 a b K (decide (i < ((b.length : Nat) : Int))) i I1 μ1) ∧
  ((decide (i < ((a.length : Nat) : Int))) = false →
    F_before_J1 a b K false i I1 μ1)

def F_before (a : List Int) (b : List Int) (K : Bool → Prop) : Prop :=
  ∃ (I1 : Int → Prop) (μ1 : Int → Nat), I1 0 ∧ ∀ (i : Int), I1 i → F_before_L1 a b K i I1 μ1

def F_ints_L1 (a : List Int) (b : List Int) (K : Bool → Prop) (i : Int) (I1 : Int → Prop) (μ1 : Int → Nat) : Prop :=
  ((decide (i < ((a.length : Nat) : Int))) = true →
    (inb a i) ∧
    (inb b i) ∧
    (((gt a i) != (gt b i)) = true →
      K false) ∧
    (((gt a i) != (gt b i)) = false →
      I1 (IntKind.i64.wrap (i + 1)) ∧
  μ1 (IntKind.i64.wrap (i + 1)) < μ1 i)) ∧
  ((decide (i < ((a.length : Nat) : Int))) = false →
    K true)

def F_ints (a : List Int) (b : List Int) (K : Bool → Prop) : Prop :=
  ((((a.length : Nat) : Int) != ((b.length : Nat) : Int)) = true →
    K false) ∧
  ((((a.length : Nat) : Int) != ((b.length : Nat) : Int)) = false →
    ∃ (I1 : Int → Prop) (μ1 : Int → Nat), I1 0 ∧ ∀ (i : Int), I1 i → F_ints_L1 a b K i I1 μ1)

def F_insert_J2 (l : List (List Int)) (s_ : List Int) (K : (List (List Int)) → Prop) (k : Int) (t31 : Bool) : Prop :=
  ((t31) = true →
    K l) ∧
  ((t31) = false →
    (0 ≤ k ∧ k ≤ (l.length : Int)) ∧
    (room ((([] : List (List Int)) ++ (l.take (k).toNat))).length 24) ∧
    (room (((([] : List (List Int)) ++ (l.take (k).toNat)) ++ ([s_] : List (List Int)))).length 24) ∧
    (room ((((([] : List (List Int)) ++ (l.take (k).toNat)) ++ ([s_] : List (List Int))) ++ (l.drop (k).toNat))).length 24) ∧
    K (((([] : List (List Int)) ++ (l.take (k).toNat)) ++ ([s_] : List (List Int))) ++ (l.drop (k).toNat)))

def F_insert_J1 (l : List (List Int)) (s_ : List Int) (K : (List (List Int)) → Prop) (t17 : Bool) (k : Int) (I1 : Int → Prop) (μ1 : Int → Nat) : Prop :=
  ((t17) = true →
    I1 (IntKind.i64.wrap (k + 1)) ∧
  μ1 (IntKind.i64.wrap (k + 1)) < μ1 k) ∧
  ((t17) = false →
    ((decide (k < ((l.length : Nat) : Int))) = true →
      (inb l k) ∧
      (pre_ints (gt l k) s_) ∧
      ∀ r2 : Bool, r2 = (sp_ints (gt l k) s_) →
      F_insert_J2 l s_ K k r2) ∧
    ((decide (k < ((l.length : Nat) : Int))) = false →
      F_insert_J2 l s_ K k false))

def F_insert_L1 (l : List (List Int)) (s_ : List Int) (K : (List (List Int)) → Prop) (k : Int) (I1 : Int → Prop) (μ1 : Int → Nat) : Prop :=
  ((decide (k < ((l.length : Nat) : Int))) = true →
    (inb l k) ∧
    (pre_before (gt l k) s_) ∧
    ∀ r3 : Bool, r3 = (sp_before (gt l k) s_) →
    F_insert_J1 l s_ K r3 k I1 μ1) ∧
  ((decide (k < ((l.length : Nat) : Int))) = false →
    F_insert_J1 l s_ K false k I1 μ1)

def F_insert (l : List (List Int)) (s_ : List Int) (K : (List (List Int)) → Prop) : Prop :=
  ∃ (I1 : Int → Prop) (μ1 : Int → Nat), I1 0 ∧ ∀ (k : Int), I1 k → F_insert_L1 l s_ K k I1 μ1

def F_possible_L2 (t : Task) (unknown : List Int) (next : List (List Int)) (k : Int) (I2 : (List (List Int)) → Int → Prop) (μ2 : (List (List Int)) → Int → Nat) (out : List (List Int)) (i : Int) (I1 : (List (List Int)) → Int → Prop) (μ1 : (List (List Int)) → Int → Nat) : Prop :=
  ((decide (k < ((out.length : Nat) : Int))) = true →
    (inb out k) ∧
    (inb unknown i) ∧
    (pre_changed t.facts (gt out k) ([(gt unknown i)] : List Int) []) ∧
    ∀ r2 : List Int, r2 = (sp_changed t.facts (gt out k) ([(gt unknown i)] : List Int) []) →
    (pre_insert next r2) ∧
    ∀ r3 : List (List Int), r3 = (sp_insert next r2) →
    (pre_changed t.facts (gt out k) [] ([(gt unknown i)] : List Int)) ∧
    ∀ r4 : List Int, r4 = (sp_changed t.facts (gt out k) [] ([(gt unknown i)] : List Int)) →
    (pre_insert r3 r4) ∧
    ∀ r5 : List (List Int), r5 = (sp_insert r3 r4) →
    I2 r5 (IntKind.i64.wrap (k + 1)) ∧
  μ2 r5 (IntKind.i64.wrap (k + 1)) < μ2 next k) ∧
  ((decide (k < ((out.length : Nat) : Int))) = false →
    I1 next (IntKind.i64.wrap (i + 1)) ∧
  μ1 next (IntKind.i64.wrap (i + 1)) < μ1 out i)

def F_possible_L1 (t : Task) (unknown : List Int) (K : (List (List Int)) → Prop) (out : List (List Int)) (i : Int) (I1 : (List (List Int)) → Int → Prop) (μ1 : (List (List Int)) → Int → Nat) : Prop :=
  ((decide (i < ((unknown.length : Nat) : Int))) = true →
    ∃ (I2 : (List (List Int)) → Int → Prop) (μ2 : (List (List Int)) → Int → Nat), I2 [] 0 ∧ ∀ (next : List (List Int)) (k : Int), I2 next k → F_possible_L2 t unknown next k I2 μ2 out i I1 μ1) ∧
  ((decide (i < ((unknown.length : Nat) : Int))) = false →
    K out)

def F_possible (t : Task) (unknown : List Int) (K : (List (List Int)) → Prop) : Prop :=
  ∃ (I1 : (List (List Int)) → Int → Prop) (μ1 : (List (List Int)) → Int → Nat), I1 ([t.init] : List (List Int)) 0 ∧ ∀ (out : List (List Int)) (i : Int), I1 out i → F_possible_L1 t unknown K out i I1 μ1

def F_sets_L1 (a : List (List Int)) (b : List (List Int)) (K : Bool → Prop) (i : Int) (I1 : Int → Prop) (μ1 : Int → Nat) : Prop :=
  ((decide (i < ((a.length : Nat) : Int))) = true →
    (inb a i) ∧
    (inb b i) ∧
    (pre_numbers (gt a i) (gt b i)) ∧
    ∀ r2 : Bool, r2 = (sp_numbers (gt a i) (gt b i)) →
    ((!r2) = true →
      K false) ∧
    ((!r2) = false →
      I1 (IntKind.i64.wrap (i + 1)) ∧
  μ1 (IntKind.i64.wrap (i + 1)) < μ1 i)) ∧
  ((decide (i < ((a.length : Nat) : Int))) = false →
    K true)

def F_sets (a : List (List Int)) (b : List (List Int)) (K : Bool → Prop) : Prop :=
  ((((a.length : Nat) : Int) != ((b.length : Nat) : Int)) = true →
    K false) ∧
  ((((a.length : Nat) : Int) != ((b.length : Nat) : Int)) = false →
    ∃ (I1 : Int → Prop) (μ1 : Int → Nat), I1 0 ∧ ∀ (i : Int), I1 i → F_sets_L1 a b K i I1 μ1)

def F_able (K : Task → Prop) : Prop :=
  K (⟨1, [], ([0] : List Int), ([(⟨[], ([0] : List Int), [], 1⟩ : Operator)] : List Operator)⟩ : Task)

def F_succ (_ : Task) (_ : List (List Int)) (K : Unit → Prop) : Prop :=
  K ()

def F_bnext (_ : Task) (K : Unit → Prop) : Prop :=
  K ()

def F_bnext1 (worlds : List (List Int)) (x : Task) (K : Unit → Prop) : Prop :=
  ∀ r2 : Unit, r2 = (sp_succ x worlds) →
  K ()

def F_small1 (_ : List (List Int)) (K : Bool → Prop) : Prop :=
  K false

def F_plan1 (w_ : List (List Int)) (x : Task) (K : Bool → Prop) : Prop :=
  (pre_sure w_ x.goal) ∧
  ∀ r2 : Bool, r2 = (sp_sure w_ x.goal) →
  K r2

def F_breadthS_L2 (K : (List Int × Bool × Bool) → Prop) (i : Int) (out : List Int) (I2 : Int → (List Int) → Prop) (μ2 : Int → (List Int) → Nat) (l : List Entry) : Prop :=
  (inb l i) ∧
  ((decide (0 ≤ ((gt l i).from_))) = true →
    (room ((out ++ ([(gt l i).step] : List Int))).length 8) ∧
    I2 ((gt l i).from_) (out ++ ([(gt l i).step] : List Int)) ∧
  μ2 ((gt l i).from_) (out ++ ([(gt l i).step] : List Int)) < μ2 i out) ∧
  ((decide (0 ≤ ((gt l i).from_))) = false →
    (pre_reverse out) ∧
    ∀ r4 : List Int, r4 = (sp_reverse out) →
    K (r4, true, true))

def F_breadthS_J1 (t9 : Int) (I3 : Int → (List Entry) → (List UInt8 → Int) → Prop) (μ3 : Int → (List Entry) → (List UInt8 → Int) → Nat) (l4 : List Entry) (m3 : List UInt8 → Int) (l6 : List Entry) (m5 : List UInt8 → Int) : Prop :=
  I3 (IntKind.i64.wrap (t9 + 1)) l6 m5 ∧
  μ3 (IntKind.i64.wrap (t9 + 1)) l6 m5 < μ3 t9 l4 m3

def F_breadthS_L3 (x : Task) (K : (List Int × Bool × Bool) → Prop) (x2 : Int) (m : List UInt8 → Int) (t9 : Int) (I3 : Int → (List Entry) → (List UInt8 → Int) → Prop) (μ3 : Int → (List Entry) → (List UInt8 → Int) → Nat) (l4 : List Entry) (m3 : List UInt8 → Int) (l : List Entry) (I1 : Int → (List Entry) → (List UInt8 → Int) → Prop) (μ1 : Int → (List Entry) → (List UInt8 → Int) → Nat) : Prop :=
  ((decide (t9 < ((x.ops.length : Nat) : Int))) = true →
    (inb x.ops t9) ∧
    (pre_sure ((gt l x2).node) ((gt x.ops t9).pre)) ∧
    ∀ r6 : Bool, r6 = (sp_sure ((gt l x2).node) ((gt x.ops t9).pre)) →
    ((r6) = true →
      (pre_bafter x ((gt l x2).node) t9) ∧
      ∀ r7 : List (List Int), r7 = (sp_bafter x ((gt l x2).node) t9) →
      (pre_key r7) ∧
      ∀ r8 : List UInt8, r8 = (sp_key r7) →
      ((decide (0 < (m3 r8))) = true →
        F_breadthS_J1 t9 I3 μ3 l4 m3 l4 m3) ∧
      ((decide (0 < (m3 r8))) = false →
        ((((l4.length : Nat) : Int) == 2000) = true →
          K (([] : List Int), false, false)) ∧
        ((((l4.length : Nat) : Int) == 2000) = false →
          (room ((l4 ++ ([(⟨r7, x2, t9⟩ : Entry)] : List Entry))).length 40) ∧
          F_breadthS_J1 t9 I3 μ3 l4 m3 (l4 ++ ([(⟨r7, x2, t9⟩ : Entry)] : List Entry)) (upd m3 r8 1)))) ∧
    ((r6) = false →
      F_breadthS_J1 t9 I3 μ3 l4 m3 l4 m3)) ∧
  ((decide (t9 < ((x.ops.length : Nat) : Int))) = false →
    I1 (IntKind.i64.wrap (x2 + 1)) l4 m3 ∧
  μ1 (IntKind.i64.wrap (x2 + 1)) l4 m3 < μ1 x2 l m)

def F_breadthS_L1 (x : Task) (K : (List Int × Bool × Bool) → Prop) (x2 : Int) (m : List UInt8 → Int) (l : List Entry) (I1 : Int → (List Entry) → (List UInt8 → Int) → Prop) (μ1 : Int → (List Entry) → (List UInt8 → Int) → Nat) : Prop :=
  ((decide (x2 < ((l.length : Nat) : Int))) = true →
    (inb l x2) ∧
    ∀ r3 : Bool, r3 = (sp_small1 ((gt l x2).node)) →
    ((r3) = true →
      ∃ (I2 : Int → (List Int) → Prop) (μ2 : Int → (List Int) → Nat), I2 x2 ([] : List Int) ∧ ∀ (i : Int) (out : List Int), I2 i out → F_breadthS_L2 K i out I2 μ2 l) ∧
    ((r3) = false →
      ∀ r5 : Unit, r5 = (sp_bnext1 ((gt l x2).node) x) →
      ∃ (I3 : Int → (List Entry) → (List UInt8 → Int) → Prop) (μ3 : Int → (List Entry) → (List UInt8 → Int) → Nat), I3 0 l m ∧ ∀ (t9 : Int) (l4 : List Entry) (m3 : List UInt8 → Int), I3 t9 l4 m3 → F_breadthS_L3 x K x2 m t9 I3 μ3 l4 m3 l I1 μ1)) ∧
  ((decide (x2 < ((l.length : Nat) : Int))) = false →
    K (([] : List Int), false, true))

def F_breadthS (start2 : List (List Int)) (x : Task) (K : (List Int × Bool × Bool) → Prop) : Prop :=
  (pre_key start2) ∧
  ∀ r2 : List UInt8, r2 = (sp_key start2) →
  ∃ (I1 : Int → (List Entry) → (List UInt8 → Int) → Prop) (μ1 : Int → (List Entry) → (List UInt8 → Int) → Nat), I1 0 ([(⟨start2, (-1), 0⟩ : Entry)] : List Entry) (upd (fun _ => 0) r2 1) ∧ ∀ (x2 : Int) (l : List Entry) (m : List UInt8 → Int), I1 x2 l m → F_breadthS_L1 x K x2 m l I1 μ1

def F_breadthP_L2 (K : (List Int × Bool × Bool) → Prop) (i : Int) (out : List Int) (I2 : Int → (List Int) → Prop) (μ2 : Int → (List Int) → Nat) (l : List Entry) : Prop :=
  (inb l i) ∧
  ((decide (0 ≤ ((gt l i).from_))) = true →
    (room ((out ++ ([(gt l i).step] : List Int))).length 8) ∧
    I2 ((gt l i).from_) (out ++ ([(gt l i).step] : List Int)) ∧
  μ2 ((gt l i).from_) (out ++ ([(gt l i).step] : List Int)) < μ2 i out) ∧
  ((decide (0 ≤ ((gt l i).from_))) = false →
    (pre_reverse out) ∧
    ∀ r4 : List Int, r4 = (sp_reverse out) →
    K (r4, true, true))

def F_breadthP_J1 (t9 : Int) (I3 : Int → (List Entry) → (List UInt8 → Int) → Prop) (μ3 : Int → (List Entry) → (List UInt8 → Int) → Nat) (l4 : List Entry) (m3 : List UInt8 → Int) (l6 : List Entry) (m5 : List UInt8 → Int) : Prop :=
  I3 (IntKind.i64.wrap (t9 + 1)) l6 m5 ∧
  μ3 (IntKind.i64.wrap (t9 + 1)) l6 m5 < μ3 t9 l4 m3

def F_breadthP_L3 (x : Task) (K : (List Int × Bool × Bool) → Prop) (x3 : Int) (m : List UInt8 → Int) (t9 : Int) (I3 : Int → (List Entry) → (List UInt8 → Int) → Prop) (μ3 : Int → (List Entry) → (List UInt8 → Int) → Nat) (l4 : List Entry) (m3 : List UInt8 → Int) (l : List Entry) (I1 : Int → (List Entry) → (List UInt8 → Int) → Prop) (μ1 : Int → (List Entry) → (List UInt8 → Int) → Nat) : Prop :=
  ((decide (t9 < ((x.ops.length : Nat) : Int))) = true →
    (inb x.ops t9) ∧
    (pre_sure ((gt l x3).node) ((gt x.ops t9).pre)) ∧
    ∀ r6 : Bool, r6 = (sp_sure ((gt l x3).node) ((gt x.ops t9).pre)) →
    ((r6) = true →
      (pre_bafter x ((gt l x3).node) t9) ∧
      ∀ r7 : List (List Int), r7 = (sp_bafter x ((gt l x3).node) t9) →
      (pre_key r7) ∧
      ∀ r8 : List UInt8, r8 = (sp_key r7) →
      ((decide (0 < (m3 r8))) = true →
        F_breadthP_J1 t9 I3 μ3 l4 m3 l4 m3) ∧
      ((decide (0 < (m3 r8))) = false →
        ((((l4.length : Nat) : Int) == 2000) = true →
          K (([] : List Int), false, false)) ∧
        ((((l4.length : Nat) : Int) == 2000) = false →
          (room ((l4 ++ ([(⟨r7, x3, t9⟩ : Entry)] : List Entry))).length 40) ∧
          F_breadthP_J1 t9 I3 μ3 l4 m3 (l4 ++ ([(⟨r7, x3, t9⟩ : Entry)] : List Entry)) (upd m3 r8 1)))) ∧
    ((r6) = false →
      F_breadthP_J1 t9 I3 μ3 l4 m3 l4 m3)) ∧
  ((decide (t9 < ((x.ops.length : Nat) : Int))) = false →
    I1 (IntKind.i64.wrap (x3 + 1)) l4 m3 ∧
  μ1 (IntKind.i64.wrap (x3 + 1)) l4 m3 < μ1 x3 l m)

def F_breadthP_L1 (x : Task) (x2 : Task) (K : (List Int × Bool × Bool) → Prop) (x3 : Int) (m : List UInt8 → Int) (l : List Entry) (I1 : Int → (List Entry) → (List UInt8 → Int) → Prop) (μ1 : Int → (List Entry) → (List UInt8 → Int) → Nat) : Prop :=
  ((decide (x3 < ((l.length : Nat) : Int))) = true →
    (inb l x3) ∧
    (pre_plan1 ((gt l x3).node) x2) ∧
    ∀ r3 : Bool, r3 = (sp_plan1 ((gt l x3).node) x2) →
    ((r3) = true →
      ∃ (I2 : Int → (List Int) → Prop) (μ2 : Int → (List Int) → Nat), I2 x3 ([] : List Int) ∧ ∀ (i : Int) (out : List Int), I2 i out → F_breadthP_L2 K i out I2 μ2 l) ∧
    ((r3) = false →
      ∀ r5 : Unit, r5 = (sp_bnext1 ((gt l x3).node) x) →
      ∃ (I3 : Int → (List Entry) → (List UInt8 → Int) → Prop) (μ3 : Int → (List Entry) → (List UInt8 → Int) → Nat), I3 0 l m ∧ ∀ (t9 : Int) (l4 : List Entry) (m3 : List UInt8 → Int), I3 t9 l4 m3 → F_breadthP_L3 x K x3 m t9 I3 μ3 l4 m3 l I1 μ1)) ∧
  ((decide (x3 < ((l.length : Nat) : Int))) = false →
    K (([] : List Int), false, true))

def F_breadthP (start2 : List (List Int)) (x : Task) (x2 : Task) (K : (List Int × Bool × Bool) → Prop) : Prop :=
  (pre_key start2) ∧
  ∀ r2 : List UInt8, r2 = (sp_key start2) →
  ∃ (I1 : Int → (List Entry) → (List UInt8 → Int) → Prop) (μ1 : Int → (List Entry) → (List UInt8 → Int) → Nat), I1 0 ([(⟨start2, (-1), 0⟩ : Entry)] : List Entry) (upd (fun _ => 0) r2 1) ∧ ∀ (x3 : Int) (l : List Entry) (m : List UInt8 → Int), I1 x3 l m → F_breadthP_L1 x x2 K x3 m l I1 μ1

def F_small (start2 : List (List Int)) (x : Task) (K : Bool → Prop) : Prop :=
  (pre_breadthS start2 x) ∧
  ∀ r2 : List Int × Bool × Bool, r2 = (sp_breadthS start2 x) →
  K r2.2.2

def F_bplan (t : Task) (unknown : List Int) (K : (List Int × Bool × Fault) → Prop) : Prop :=
  ∀ r2 : Fault, r2 = (sp_unknownFault t unknown) →
  ((!((r2.code == 0) && (r2.index == 0))) = true →
    K (([] : List Int), false, r2)) ∧
  ((!((r2.code == 0) && (r2.index == 0))) = false →
    ∀ r3 : Unit, r3 = (sp_bnext t) →
    (pre_worlds t unknown) ∧
    ∀ r4 : List (List Int), r4 = (sp_worlds t unknown) →
    (pre_small r4 t) ∧
    ∀ r5 : Bool, r5 = (sp_small r4 t) →
    ((!r5) = true →
      K (([] : List Int), false, (⟨10, (-7)⟩ : Fault))) ∧
    ((!r5) = false →
      ∀ r6 : List (List Int), r6 = (sp_worlds t unknown) →
      (pre_breadthP r6 t t) ∧
      ∀ r7 : List Int × Bool × Bool, r7 = (sp_breadthP r6 t t) →
      ((decide (60 < ((r7.1.length : Nat) : Int))) = true →
        K (([] : List Int), false, (⟨10, (-5)⟩ : Fault))) ∧
      ((decide (60 < ((r7.1.length : Nat) : Int))) = false →
        K (r7.1, r7.2.1, (⟨0, 0⟩ : Fault)))))

def F_settled (K : Bool → Prop) : Prop :=
  ∀ r2 : Task, r2 = sp_able →
  ∀ r3 : List Int × Bool × Fault, r3 = (sp_bplan r2 ([0] : List Int)) →
  ∀ r4 : Task, r4 = sp_able →
  ∀ r5 : List (List Int) × Fault, r5 = (sp_initial r4 ([0] : List Int)) →
  ((r3.2.2.code == 0) = true →
    ((r5.2.code == 0) = true →
      ((r3.2.1) = true →
        (pre_numbers r3.1 ([0] : List Int)) ∧
        ∀ r6 : Bool, r6 = (sp_numbers r3.1 ([0] : List Int)) →
        ((r6) = true →
          (pre_sets r5.1 ([[], ([0] : List Int)] : List (List Int))) ∧
          ∀ r7 : Bool, r7 = (sp_sets r5.1 ([[], ([0] : List Int)] : List (List Int))) →
          K r7) ∧
        ((r6) = false →
          K false)) ∧
      ((r3.2.1) = false →
        K false)) ∧
    ((r5.2.code == 0) = false →
      K false)) ∧
  ((r3.2.2.code == 0) = false →
    K false)

def F_lawBeliefSolves_J2 (all : Bool) (i : Int) (I1 : Bool → Int → Prop) (μ1 : Bool → Int → Nat) (all3 : Bool) : Prop :=
  I1 all3 (IntKind.i64.wrap (i + 1)) ∧
  μ1 all3 (IntKind.i64.wrap (i + 1)) < μ1 all i

def F_lawBeliefSolves_L1 (t : Task) (plan : List Int) (K : Bool → Prop) (r2 : Bool × Fault) (r5 : List (List Int)) (all : Bool) (i : Int) (I1 : Bool → Int → Prop) (μ1 : Bool → Int → Nat) : Prop :=
  ((decide (i < ((r5.length : Nat) : Int))) = true →
    ((all) = true →
      (inb r5 i) ∧
      (pre_rworks t (gt r5 i) plan) ∧
      ∀ r6 : Bool, r6 = (sp_rworks t (gt r5 i) plan) →
      F_lawBeliefSolves_J2 all i I1 μ1 r6) ∧
    ((all) = false →
      F_lawBeliefSolves_J2 all i I1 μ1 false)) ∧
  ((decide (i < ((r5.length : Nat) : Int))) = false →
    ((r2.2.code == 0) = true →
      ((r2.1 == all) = true →
        ∀ r7 : Bool, r7 = sp_settled →
        K r7) ∧
      ((r2.1 == all) = false →
        K false)) ∧
    ((r2.2.code == 0) = false →
      K false))

def F_lawBeliefSolves_J1 (t : Task) (unknown : List Int) (plan : List Int) (K : Bool → Prop) (r2 : Bool × Fault) (x : Int) (x2 : Int) : Prop :=
  ((x != 0) = true →
    (((r2.2.code == x) && (r2.2.index == x2)) = true →
      ((!r2.1) = true →
        ∀ r4 : Bool, r4 = sp_settled →
        K r4) ∧
      ((!r2.1) = false →
        K false)) ∧
    (((r2.2.code == x) && (r2.2.index == x2)) = false →
      K false)) ∧
  ((x != 0) = false →
    (pre_possible t unknown) ∧
    ∀ r5 : List (List Int), r5 = (sp_possible t unknown) →
    ∃ (I1 : Bool → Int → Prop) (μ1 : Bool → Int → Nat), I1 true 0 ∧ ∀ (all : Bool) (i : Int), I1 all i → F_lawBeliefSolves_L1 t plan K r2 r5 all i I1 μ1)

def F_lawBeliefSolves (t : Task) (unknown : List Int) (plan : List Int) (K : Bool → Prop) : Prop :=
  ∀ r2 : Bool × Fault, r2 = (sp_bsolves t unknown plan) →
  ∀ r3 : Fault, r3 = (sp_unknownFault t unknown) →
  ((r3.code == 0) = true →
    (pre_steps ((t.ops.length : Nat) : Int) plan) ∧
    ∀ r8 : Fault, r8 = (sp_steps ((t.ops.length : Nat) : Int) plan) →
    F_lawBeliefSolves_J1 t unknown plan K r2 r8.code r8.index) ∧
  ((r3.code == 0) = false →
    F_lawBeliefSolves_J1 t unknown plan K r2 r3.code r3.index)

end Go.Proofs.YtojoehfldbimpaaGreatDoor.Pl

