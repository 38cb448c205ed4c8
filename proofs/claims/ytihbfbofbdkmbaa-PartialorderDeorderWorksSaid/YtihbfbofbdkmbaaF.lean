/- What each function asks and gives, in plain Lean; printed from the code. No condition. -/
import Derived.Test.YtihbfbofbdkmbaaSp
namespace Go.Proofs.Ytihbfbofbdkmbaa.Pl
open Go Go.RowKit
def F_in_ (n_ : Int) (low : Int) (high : Int) (K : Bool → Prop) : Prop :=
  ((decide (low ≤ n_)) = true →
    K (decide (n_ ≤ high))) ∧
  ((decide (low ≤ n_)) = false →
    K false)

def F_at_ (code : Int) (index : Int) (K : Fault → Prop) : Prop :=
  K (⟨code, index⟩ : Fault)

def F_has_L1 (l : List Int) (n_ : Int) (K : Bool → Prop) (i : Int) (I1 : Int → Prop) (μ1 : Int → Nat) : Prop :=
  ((decide (i < ((l.length : Nat) : Int))) = true →
    (inb l i) ∧
    (((gt l i) == n_) = true →
      K true) ∧
    (((gt l i) == n_) = false →
      I1 (IntKind.i64.wrap (i + 1)) ∧
  μ1 (IntKind.i64.wrap (i + 1)) < μ1 i)) ∧
  ((decide (i < ((l.length : Nat) : Int))) = false →
    K false)

def F_has (l : List Int) (n_ : Int) (K : Bool → Prop) : Prop :=
  ∃ (I1 : Int → Prop) (μ1 : Int → Nat), I1 0 ∧ ∀ (i : Int), I1 i → F_has_L1 l n_ K i I1 μ1

def F_numbers_L1 (a : List Int) (b : List Int) (K : Bool → Prop) (i : Int) (I1 : Int → Prop) (μ1 : Int → Nat) : Prop :=
  ((decide (i < ((a.length : Nat) : Int))) = true →
    (inb a i) ∧
    (inb b i) ∧
    (((gt a i) != (gt b i)) = true →
      K false) ∧
    (((gt a i) != (gt b i)) = false →
      I1 (IntKind.i64.wrap (i + 1)) ∧
  μ1 (IntKind.i64.wrap (i + 1)) < μ1 i)) ∧
  ((decide (i < ((a.length : Nat) : Int))) = false →
    K true)

def F_numbers (a : List Int) (b : List Int) (K : Bool → Prop) : Prop :=
  ((((a.length : Nat) : Int) != ((b.length : Nat) : Int)) = true →
    K false) ∧
  ((((a.length : Nat) : Int) != ((b.length : Nat) : Int)) = false →
    ∃ (I1 : Int → Prop) (μ1 : Int → Nat), I1 0 ∧ ∀ (i : Int), I1 i → F_numbers_L1 a b K i I1 μ1)

def F_index_L1 (s_ : List Int) (v : Int) (K : Int → Prop) (t8 : Int) (I1 : Int → Prop) (μ1 : Int → Nat) : Prop :=
  ((decide (t8 < ((s_.length : Nat) : Int))) = true →
    (inb s_ t8) ∧
    ((v == (gt s_ t8)) = true →
      K t8) ∧
    ((v == (gt s_ t8)) = false →
      I1 (IntKind.i64.wrap (t8 + 1)) ∧
  μ1 (IntKind.i64.wrap (t8 + 1)) < μ1 t8)) ∧
  ((decide (t8 < ((s_.length : Nat) : Int))) = false →
    K (-1))

def F_index (s_ : List Int) (v : Int) (K : Int → Prop) : Prop :=
  ∃ (I1 : Int → Prop) (μ1 : Int → Nat), I1 0 ∧ ∀ (t8 : Int), I1 t8 → F_index_L1 s_ v K t8 I1 μ1

def F_contains (s_ : List Int) (v : Int) (K : Bool → Prop) : Prop :=
  (pre_index s_ v) ∧
  ∀ r2 : Int, r2 = (sp_index s_ v) →
  K (decide (0 ≤ r2))

def F_isNaN1 (x : Int) (K : Bool → Prop) : Prop :=
  K (x != x)

def F_isNaN2 (x : Int) (K : Bool → Prop) : Prop :=
  K (x != x)

def F_less (x : Int) (y : Int) (K : Bool → Prop) : Prop :=
  ∀ r2 : Bool, r2 = (sp_isNaN1 x) →
  ((r2) = true →
    ∀ r3 : Bool, r3 = (sp_isNaN1 y) →
    ((!r3) = true →
      K true) ∧
    ((!r3) = false →
      K (decide (x < y)))) ∧
  ((r2) = false →
    K (decide (x < y)))

def F_bsearch_L1 (x : List Int) (target : Int) (K : (Int × Bool) → Prop) (i : Int) (j : Int) (I1 : Int → Int → Prop) (μ1 : Int → Int → Nat) : Prop :=
  ((decide (i < j)) = true →
    ∀ x2 : Int, x2 = (Int.fdiv (IntKind.u64.wrap (IntKind.i64.wrap (i + j))) (2 ^ (min ((1 : Int)).toNat (IntKind.bits .u64)))) →
    (inb x (IntKind.i64.wrap (x2))) ∧
    ∀ r2 : Bool, r2 = (sp_less (gt x (IntKind.i64.wrap (x2))) target) →
    ((r2) = true →
      I1 (IntKind.i64.wrap ((IntKind.i64.wrap (x2)) + 1)) j ∧
  μ1 (IntKind.i64.wrap ((IntKind.i64.wrap (x2)) + 1)) j < μ1 i j) ∧
    ((r2) = false →
      I1 i (IntKind.i64.wrap (x2)) ∧
  μ1 i (IntKind.i64.wrap (x2)) < μ1 i j)) ∧
  ((decide (i < j)) = false →
    ((decide (i < ((x.length : Nat) : Int))) = true →
      (inb x i) ∧
      (((gt x i) == target) = true →
        K (i, true)) ∧
      (((gt x i) == target) = false →
        ∀ r3 : Bool, r3 = (sp_isNaN1 (gt x i)) →
        ((r3) = true →
          ∀ r4 : Bool, r4 = (sp_isNaN1 target) →
          K (i, r4)) ∧
        ((r3) = false →
          K (i, false)))) ∧
    ((decide (i < ((x.length : Nat) : Int))) = false →
      K (i, false)))

def F_bsearch (x : List Int) (target : Int) (K : (Int × Bool) → Prop) : Prop :=
  ∃ (I1 : Int → Int → Prop) (μ1 : Int → Int → Nat), I1 0 ((x.length : Nat) : Int) ∧ ∀ (i : Int) (j : Int), I1 i j → F_bsearch_L1 x target K i j I1 μ1

def F_indexF_L1 (s_ : List Int) (pf : Int → Bool) (Df : Int → Prop) (K : Int → Prop) (t8 : Int) (I1 : Int → Prop) (μ1 : Int → Nat) : Prop :=
  ((decide (t8 < ((s_.length : Nat) : Int))) = true →
    (inb s_ t8) ∧
    (Df (gt s_ t8)) ∧
    ∀ r2 : Bool, r2 = (pf (gt s_ t8)) →
    ((r2) = true →
      K t8) ∧
    ((r2) = false →
      I1 (IntKind.i64.wrap (t8 + 1)) ∧
  μ1 (IntKind.i64.wrap (t8 + 1)) < μ1 t8)) ∧
  ((decide (t8 < ((s_.length : Nat) : Int))) = false →
    K (-1))

def F_indexF (s_ : List Int) (pf : Int → Bool) (Df : Int → Prop) (K : Int → Prop) : Prop :=
  ∃ (I1 : Int → Prop) (μ1 : Int → Nat), I1 0 ∧ ∀ (t8 : Int), I1 t8 → F_indexF_L1 s_ pf Df K t8 I1 μ1

def F_containsF (s_ : List Int) (pf : Int → Bool) (Df : Int → Prop) (K : Bool → Prop) : Prop :=
  (pre_any s_ pf Df) ∧
  ∀ r2 : Int, r2 = (sp_indexF s_ pf Df) →
  K (decide (0 ≤ r2))

def F_isSet_J1 (K : Bool → Prop) (t33 : Bool) (t9 : Int) (I1 : Int → Prop) (μ1 : Int → Nat) : Prop :=
  ((t33) = true →
    K false) ∧
  ((t33) = false →
    I1 (IntKind.i64.wrap (t9 + 1)) ∧
  μ1 (IntKind.i64.wrap (t9 + 1)) < μ1 t9)

def F_isSet_L1 (l : List Int) (n_ : Int) (K : Bool → Prop) (t9 : Int) (I1 : Int → Prop) (μ1 : Int → Nat) : Prop :=
  ((decide (t9 < ((l.length : Nat) : Int))) = true →
    (inb l t9) ∧
    ((decide ((gt l t9) < 0)) = true →
      F_isSet_J1 K true t9 I1 μ1) ∧
    ((decide ((gt l t9) < 0)) = false →
      ((decide (n_ ≤ (gt l t9))) = true →
        F_isSet_J1 K true t9 I1 μ1) ∧
      ((decide (n_ ≤ (gt l t9))) = false →
        ((decide (0 < t9)) = true →
          (inb l (IntKind.i64.wrap (t9 - 1))) ∧
          F_isSet_J1 K (decide ((gt l t9) ≤ (gt l (IntKind.i64.wrap (t9 - 1))))) t9 I1 μ1) ∧
        ((decide (0 < t9)) = false →
          F_isSet_J1 K false t9 I1 μ1)))) ∧
  ((decide (t9 < ((l.length : Nat) : Int))) = false →
    K true)

def F_isSet (l : List Int) (n_ : Int) (K : Bool → Prop) : Prop :=
  ∃ (I1 : Int → Prop) (μ1 : Int → Nat), I1 0 ∧ ∀ (t9 : Int), I1 t9 → F_isSet_L1 l n_ K t9 I1 μ1

def F_rIsSet_J1 (K : Bool → Prop) (t35 : Bool) (i : Int) (I1 : Int → Prop) (μ1 : Int → Nat) : Prop :=
  ((t35) = true →
    K false) ∧
  ((t35) = false →
    I1 (IntKind.i64.wrap (i + 1)) ∧
  μ1 (IntKind.i64.wrap (i + 1)) < μ1 i)

def F_rIsSet_L1 (l : List Int) (n_ : Int) (K : Bool → Prop) (i : Int) (I1 : Int → Prop) (μ1 : Int → Nat) : Prop :=
  ((decide (i < ((l.length : Nat) : Int))) = true →
    (inb l i) ∧
    ∀ r2 : Bool, r2 = (sp_in_ (gt l i) 0 (IntKind.i64.wrap (n_ - 1))) →
    ((!r2) = true →
      F_rIsSet_J1 K true i I1 μ1) ∧
    ((!r2) = false →
      ((decide (0 < i)) = true →
        (inb l (IntKind.i64.wrap (i - 1))) ∧
        F_rIsSet_J1 K (decide ((gt l i) ≤ (gt l (IntKind.i64.wrap (i - 1))))) i I1 μ1) ∧
      ((decide (0 < i)) = false →
        F_rIsSet_J1 K false i I1 μ1))) ∧
  ((decide (i < ((l.length : Nat) : Int))) = false →
    K true)

def F_rIsSet (l : List Int) (n_ : Int) (K : Bool → Prop) : Prop :=
  ∃ (I1 : Int → Prop) (μ1 : Int → Nat), I1 0 ∧ ∀ (i : Int), I1 i → F_rIsSet_L1 l n_ K i I1 μ1

def F_meets1 (x : Int) (x2 : List Int) (K : Bool → Prop) : Prop :=
  (pre_bsearch x2 x) ∧
  ∀ r2 : Int × Bool, r2 = (sp_bsearch x2 x) →
  K r2.2

def F_meets (a : List Int) (b : List Int) (K : Bool → Prop) : Prop :=
  (pre_any a (fun y_ : Int => sp_meets1 y_ b) (fun y_ : Int => pre_meets1 y_ b)) ∧
  ∀ r2 : Bool, r2 = (sp_any a (fun y_ : Int => sp_meets1 y_ b) (fun y_ : Int => pre_meets1 y_ b)) →
  K r2

def F_disjoint_L1 (a : List Int) (b : List Int) (K : Bool → Prop) (i : Int) (I1 : Int → Prop) (μ1 : Int → Nat) : Prop :=
  ((decide (i < ((a.length : Nat) : Int))) = true →
    (inb a i) ∧
    (pre_has b (gt a i)) ∧
    ∀ r2 : Bool, r2 = (sp_has b (gt a i)) →
    ((r2) = true →
      K false) ∧
    ((r2) = false →
      I1 (IntKind.i64.wrap (i + 1)) ∧
  μ1 (IntKind.i64.wrap (i + 1)) < μ1 i)) ∧
  ((decide (i < ((a.length : Nat) : Int))) = false →
    K true)

def F_disjoint (a : List Int) (b : List Int) (K : Bool → Prop) : Prop :=
  ∃ (I1 : Int → Prop) (μ1 : Int → Nat), I1 0 ∧ ∀ (i : Int), I1 i → F_disjoint_L1 a b K i I1 μ1

def F_operator_J2 (K : Int → Prop) (t32 : Bool) : Prop :=
  ((t32) = true →
    K 3) ∧
  ((t32) = false →
    K 0)

def F_operator_J1 (o : Operator) (K : Int → Prop) (t5 : Bool) : Prop :=
  ((t5) = true →
    K 5) ∧
  ((t5) = false →
    ((decide (o.cost < 0)) = true →
      F_operator_J2 K true) ∧
    ((decide (o.cost < 0)) = false →
      F_operator_J2 K (decide (100 < o.cost))))

def F_operator (o : Operator) (facts : Int) (K : Int → Prop) : Prop :=
  (pre_isSet o.pre facts) ∧
  ∀ r2 : Bool, r2 = (sp_isSet o.pre facts) →
  ((!r2) = true →
    F_operator_J1 o K true) ∧
  ((!r2) = false →
    (pre_isSet o.add facts) ∧
    ∀ r3 : Bool, r3 = (sp_isSet o.add facts) →
    ((!r3) = true →
      F_operator_J1 o K true) ∧
    ((!r3) = false →
      (pre_isSet o.del facts) ∧
      ∀ r4 : Bool, r4 = (sp_isSet o.del facts) →
      ((!r4) = true →
        F_operator_J1 o K true) ∧
      ((!r4) = false →
        (pre_meets o.add o.del) ∧
        ∀ r5 : Bool, r5 = (sp_meets o.add o.del) →
        F_operator_J1 o K r5)))

def F_validate_L1 (t : Task) (K : Fault → Prop) (t41 : Int) (I1 : Int → Prop) (μ1 : Int → Nat) : Prop :=
  ((decide (t41 < ((t.ops.length : Nat) : Int))) = true →
    (inb t.ops t41) ∧
    (pre_operator (gt t.ops t41) t.facts) ∧
    ∀ r4 : Int, r4 = (sp_operator (gt t.ops t41) t.facts) →
    ((r4 != 0) = true →
      K (⟨r4, t41⟩ : Fault)) ∧
    ((r4 != 0) = false →
      I1 (IntKind.i64.wrap (t41 + 1)) ∧
  μ1 (IntKind.i64.wrap (t41 + 1)) < μ1 t41)) ∧
  ((decide (t41 < ((t.ops.length : Nat) : Int))) = false →
    K (⟨0, 0⟩ : Fault))

def F_validate_J1 (t : Task) (K : Fault → Prop) (t6 : Bool) : Prop :=
  ((t6) = true →
    K (⟨3, (-1)⟩ : Fault)) ∧
  ((t6) = false →
    (pre_isSet t.init t.facts) ∧
    ∀ r2 : Bool, r2 = (sp_isSet t.init t.facts) →
    ((!r2) = true →
      K (⟨5, (-2)⟩ : Fault)) ∧
    ((!r2) = false →
      (pre_isSet t.goal t.facts) ∧
      ∀ r3 : Bool, r3 = (sp_isSet t.goal t.facts) →
      ((!r3) = true →
        K (⟨5, (-3)⟩ : Fault)) ∧
      ((!r3) = false →
        ((decide (40 < ((t.ops.length : Nat) : Int))) = true →
          K (⟨2, (-1)⟩ : Fault)) ∧
        ((decide (40 < ((t.ops.length : Nat) : Int))) = false →
          ∃ (I1 : Int → Prop) (μ1 : Int → Nat), I1 0 ∧ ∀ (t41 : Int), I1 t41 → F_validate_L1 t K t41 I1 μ1))))

def F_validate (t : Task) (K : Fault → Prop) : Prop :=
  ((decide (t.facts < 0)) = true →
    F_validate_J1 t K true) ∧
  ((decide (t.facts < 0)) = false →
    F_validate_J1 t K (decide (24 < t.facts)))

def F_taskFault_J1 (t : Task) (K : Fault → Prop) (t70 : Bool) (i : Int) (I1 : Int → Prop) (μ1 : Int → Nat) : Prop :=
  ((t70) = true →
    ∀ r9 : Fault, r9 = (sp_at_ 5 i) →
    K r9) ∧
  ((t70) = false →
    ∀ r10 : Bool, r10 = (sp_in_ ((gt t.ops i).cost) 0 100) →
    ((!r10) = true →
      ∀ r11 : Fault, r11 = (sp_at_ 3 i) →
      K r11) ∧
    ((!r10) = false →
      I1 (IntKind.i64.wrap (i + 1)) ∧
  μ1 (IntKind.i64.wrap (i + 1)) < μ1 i))

def F_taskFault_L1 (t : Task) (K : Fault → Prop) (i : Int) (I1 : Int → Prop) (μ1 : Int → Nat) : Prop :=
  ((decide (i < ((t.ops.length : Nat) : Int))) = true →
    (inb t.ops i) ∧
    (pre_isSet ((gt t.ops i).pre) t.facts) ∧
    ∀ r12 : Bool, r12 = (sp_isSet ((gt t.ops i).pre) t.facts) →
    ((!r12) = true →
      F_taskFault_J1 t K true i I1 μ1) ∧
    ((!r12) = false →
      (pre_isSet ((gt t.ops i).add) t.facts) ∧
      ∀ r13 : Bool, r13 = (sp_isSet ((gt t.ops i).add) t.facts) →
      ((!r13) = true →
        F_taskFault_J1 t K true i I1 μ1) ∧
      ((!r13) = false →
        (pre_isSet ((gt t.ops i).del) t.facts) ∧
        ∀ r14 : Bool, r14 = (sp_isSet ((gt t.ops i).del) t.facts) →
        ((!r14) = true →
          F_taskFault_J1 t K true i I1 μ1) ∧
        ((!r14) = false →
          (pre_disjoint ((gt t.ops i).add) ((gt t.ops i).del)) ∧
          ∀ r15 : Bool, r15 = (sp_disjoint ((gt t.ops i).add) ((gt t.ops i).del)) →
          F_taskFault_J1 t K (!r15) i I1 μ1)))) ∧
  ((decide (i < ((t.ops.length : Nat) : Int))) = false →
    K (⟨0, 0⟩ : Fault))

def F_taskFault (t : Task) (K : Fault → Prop) : Prop :=
  ∀ r2 : Bool, r2 = (sp_in_ t.facts 0 24) →
  ((!r2) = true →
    ∀ r3 : Fault, r3 = (sp_at_ 3 (-1)) →
    K r3) ∧
  ((!r2) = false →
    (pre_isSet t.init t.facts) ∧
    ∀ r4 : Bool, r4 = (sp_isSet t.init t.facts) →
    ((!r4) = true →
      ∀ r5 : Fault, r5 = (sp_at_ 5 (-2)) →
      K r5) ∧
    ((!r4) = false →
      (pre_isSet t.goal t.facts) ∧
      ∀ r6 : Bool, r6 = (sp_isSet t.goal t.facts) →
      ((!r6) = true →
        ∀ r7 : Fault, r7 = (sp_at_ 5 (-3)) →
        K r7) ∧
      ((!r6) = false →
        ((decide (40 < ((t.ops.length : Nat) : Int))) = true →
          ∀ r8 : Fault, r8 = (sp_at_ 2 (-1)) →
          K r8) ∧
        ((decide (40 < ((t.ops.length : Nat) : Int))) = false →
          ∃ (I1 : Int → Prop) (μ1 : Int → Nat), I1 0 ∧ ∀ (i : Int), I1 i → F_taskFault_L1 t K i I1 μ1))))

def F_steps_J1 (K : Fault → Prop) (t23 : Bool) (t13 : Int) (I1 : Int → Prop) (μ1 : Int → Nat) : Prop :=
  ((t23) = true →
    K (⟨3, (-6)⟩ : Fault)) ∧
  ((t23) = false →
    I1 (IntKind.i64.wrap (t13 + 1)) ∧
  μ1 (IntKind.i64.wrap (t13 + 1)) < μ1 t13)

def F_steps_L1 (operators : Int) (plan : List Int) (K : Fault → Prop) (t13 : Int) (I1 : Int → Prop) (μ1 : Int → Nat) : Prop :=
  ((decide (t13 < ((plan.length : Nat) : Int))) = true →
    (inb plan t13) ∧
    ((decide ((gt plan t13) < 0)) = true →
      F_steps_J1 K true t13 I1 μ1) ∧
    ((decide ((gt plan t13) < 0)) = false →
      F_steps_J1 K (decide (operators ≤ (gt plan t13))) t13 I1 μ1)) ∧
  ((decide (t13 < ((plan.length : Nat) : Int))) = false →
    K (⟨0, 0⟩ : Fault))

def F_steps (operators : Int) (plan : List Int) (K : Fault → Prop) : Prop :=
  ((decide (60 < ((plan.length : Nat) : Int))) = true →
    K (⟨2, (-5)⟩ : Fault)) ∧
  ((decide (60 < ((plan.length : Nat) : Int))) = false →
    ∃ (I1 : Int → Prop) (μ1 : Int → Nat), I1 0 ∧ ∀ (t13 : Int), I1 t13 → F_steps_L1 operators plan K t13 I1 μ1)

def F_stepsFault_L1 (operators : Int) (plan : List Int) (K : Fault → Prop) (i : Int) (I1 : Int → Prop) (μ1 : Int → Nat) : Prop :=
  ((decide (i < ((plan.length : Nat) : Int))) = true →
    (inb plan i) ∧
    ∀ r3 : Bool, r3 = (sp_in_ (gt plan i) 0 (IntKind.i64.wrap (operators - 1))) →
    ((!r3) = true →
      ∀ r4 : Fault, r4 = (sp_at_ 3 (-6)) →
      K r4) ∧
    ((!r3) = false →
      I1 (IntKind.i64.wrap (i + 1)) ∧
  μ1 (IntKind.i64.wrap (i + 1)) < μ1 i)) ∧
  ((decide (i < ((plan.length : Nat) : Int))) = false →
    K (⟨0, 0⟩ : Fault))

def F_stepsFault (operators : Int) (plan : List Int) (K : Fault → Prop) : Prop :=
  ((decide (60 < ((plan.length : Nat) : Int))) = true →
    ∀ r2 : Fault, r2 = (sp_at_ 2 (-5)) →
    K r2) ∧
  ((decide (60 < ((plan.length : Nat) : Int))) = false →
    ∃ (I1 : Int → Prop) (μ1 : Int → Nat), I1 0 ∧ ∀ (i : Int), I1 i → F_stepsFault_L1 operators plan K i I1 μ1)

def F_planFault (t : Task) (plan : List Int) (K : Fault → Prop) : Prop :=
  ∀ r2 : Fault, r2 = (sp_validate t) →
  ((!((r2.code == 0) && (r2.index == 0))) = true →
    K r2) ∧
  ((!((r2.code == 0) && (r2.index == 0))) = false →
    (pre_steps ((t.ops.length : Nat) : Int) plan) ∧
    ∀ r3 : Fault, r3 = (sp_steps ((t.ops.length : Nat) : Int) plan) →
    K r3)

def F_rPlanFault (t : Task) (plan : List Int) (K : Fault → Prop) : Prop :=
  ∀ r2 : Fault, r2 = (sp_validate t) →
  ((r2.code == 0) = true →
    (pre_steps ((t.ops.length : Nat) : Int) plan) ∧
    ∀ r3 : Fault, r3 = (sp_steps ((t.ops.length : Nat) : Int) plan) →
    K r3) ∧
  ((r2.code == 0) = false →
    K r2)

def F_closure_J1 (t51 : Int) (I5 : Int → (List (List Bool)) → Prop) (μ5 : Int → (List (List Bool)) → Nat) (t9 : List (List Bool)) (t11 : List (List Bool)) : Prop :=
  I5 (IntKind.i64.wrap (t51 + 1)) t11 ∧
  μ5 (IntKind.i64.wrap (t51 + 1)) t11 < μ5 t51 t9

def F_closure_L5 (n_ : Int) (t51 : Int) (I5 : Int → (List (List Bool)) → Prop) (μ5 : Int → (List (List Bool)) → Nat) (t7 : List (List Bool)) (t47 : Int) (I4 : Int → (List (List Bool)) → Prop) (μ4 : Int → (List (List Bool)) → Nat) (t9 : List (List Bool)) (t43 : Int) : Prop :=
  ((decide (t51 < n_)) = true →
    (inb t9 t47) ∧
    (inb (gt t9 t47) t51) ∧
    (((gt (gt t9 t47) t51)) = true →
      ∀ d3 : List (List Bool), d3 = (t9.set (t47).toNat ((gt t9 t47).set (t51).toNat true)) →
      F_closure_J1 t51 I5 μ5 t9 d3) ∧
    (((gt (gt t9 t47) t51)) = false →
      (inb (gt t9 t47) t43) ∧
      (((gt (gt t9 t47) t43)) = true →
        (inb t9 t43) ∧
        (inb (gt t9 t43) t51) ∧
        ∀ d4 : List (List Bool), d4 = (t9.set (t47).toNat ((gt t9 t47).set (t51).toNat (gt (gt t9 t43) t51))) →
        F_closure_J1 t51 I5 μ5 t9 d4) ∧
      (((gt (gt t9 t47) t43)) = false →
        ∀ d5 : List (List Bool), d5 = (t9.set (t47).toNat ((gt t9 t47).set (t51).toNat false)) →
        F_closure_J1 t51 I5 μ5 t9 d5))) ∧
  ((decide (t51 < n_)) = false →
    I4 (IntKind.i64.wrap (t47 + 1)) t9 ∧
  μ4 (IntKind.i64.wrap (t47 + 1)) t9 < μ4 t47 t7)

def F_closure_L4 (n_ : Int) (t5 : List (List Bool)) (t7 : List (List Bool)) (t47 : Int) (I4 : Int → (List (List Bool)) → Prop) (μ4 : Int → (List (List Bool)) → Nat) (t43 : Int) (I3 : Int → (List (List Bool)) → Prop) (μ3 : Int → (List (List Bool)) → Nat) : Prop :=
  ((decide (t47 < n_)) = true →
    ∃ (I5 : Int → (List (List Bool)) → Prop) (μ5 : Int → (List (List Bool)) → Nat), I5 0 t7 ∧ ∀ (t51 : Int) (t9 : List (List Bool)), I5 t51 t9 → F_closure_L5 n_ t51 I5 μ5 t7 t47 I4 μ4 t9 t43) ∧
  ((decide (t47 < n_)) = false →
    I3 (IntKind.i64.wrap (t43 + 1)) t7 ∧
  μ3 (IntKind.i64.wrap (t43 + 1)) t7 < μ3 t43 t5)

def F_closure_L6 (n_ : Int) (K : (List (List Bool) × Bool) → Prop) (t5 : List (List Bool)) (t89 : Int) (I6 : Int → Prop) (μ6 : Int → Nat) : Prop :=
  ((decide (t89 < n_)) = true →
    (inb t5 t89) ∧
    (inb (gt t5 t89) t89) ∧
    (((gt (gt t5 t89) t89)) = true →
      K (([] : List (List Bool)), false)) ∧
    (((gt (gt t5 t89) t89)) = false →
      I6 (IntKind.i64.wrap (t89 + 1)) ∧
  μ6 (IntKind.i64.wrap (t89 + 1)) < μ6 t89)) ∧
  ((decide (t89 < n_)) = false →
    K (t5, true))

def F_closure_L3 (n_ : Int) (K : (List (List Bool) × Bool) → Prop) (t5 : List (List Bool)) (t43 : Int) (I3 : Int → (List (List Bool)) → Prop) (μ3 : Int → (List (List Bool)) → Nat) : Prop :=
  ((decide (t43 < n_)) = true →
    ∃ (I4 : Int → (List (List Bool)) → Prop) (μ4 : Int → (List (List Bool)) → Nat), I4 0 t5 ∧ ∀ (t47 : Int) (t7 : List (List Bool)), I4 t47 t7 → F_closure_L4 n_ t5 t7 t47 I4 μ4 t43 I3 μ3) ∧
  ((decide (t43 < n_)) = false →
    ∃ (I6 : Int → Prop) (μ6 : Int → Nat), I6 0 ∧ ∀ (t89 : Int), I6 t89 → F_closure_L6 n_ K t5 t89 I6 μ6)

def F_closure_L2 (n_ : Int) (before : List (Int × Int)) (K : (List (List Bool) × Bool) → Prop) (t29 : Int) (t3 : List (List Bool)) (I2 : Int → (List (List Bool)) → Prop) (μ2 : Int → (List (List Bool)) → Nat) : Prop :=
  ((decide (t29 < ((before.length : Nat) : Int))) = true →
    (inb before t29) ∧
    (inb t3 ((gt before t29).1)) ∧
    (inb (gt t3 ((gt before t29).1)) ((gt before t29).2)) ∧
    ∀ d2 : List (List Bool), d2 = (t3.set ((gt before t29).1).toNat ((gt t3 ((gt before t29).1)).set ((gt before t29).2).toNat true)) →
    I2 (IntKind.i64.wrap (t29 + 1)) d2 ∧
  μ2 (IntKind.i64.wrap (t29 + 1)) d2 < μ2 t29 t3) ∧
  ((decide (t29 < ((before.length : Nat) : Int))) = false →
    ∃ (I3 : Int → (List (List Bool)) → Prop) (μ3 : Int → (List (List Bool)) → Nat), I3 0 t3 ∧ ∀ (t43 : Int) (t5 : List (List Bool)), I3 t43 t5 → F_closure_L3 n_ K t5 t43 I3 μ3)

def F_closure_L1 (n_ : Int) (before : List (Int × Int)) (K : (List (List Bool) × Bool) → Prop) (t18 : Int) (t : List (List Bool)) (I1 : Int → (List (List Bool)) → Prop) (μ1 : Int → (List (List Bool)) → Nat) : Prop :=
  ((decide (t18 < (((n_).toNat : Nat) : Int))) = true →
    (mkok n_ 1) ∧
    (inb t t18) ∧
    ∀ d : List (List Bool), d = (t.set (t18).toNat (List.replicate (n_).toNat (false : Bool))) →
    I1 (IntKind.i64.wrap (t18 + 1)) d ∧
  μ1 (IntKind.i64.wrap (t18 + 1)) d < μ1 t18 t) ∧
  ((decide (t18 < (((n_).toNat : Nat) : Int))) = false →
    ∃ (I2 : Int → (List (List Bool)) → Prop) (μ2 : Int → (List (List Bool)) → Nat), I2 0 t ∧ ∀ (t29 : Int) (t3 : List (List Bool)), I2 t29 t3 → F_closure_L2 n_ before K t29 t3 I2 μ2)

def F_closure (n_ : Int) (before : List (Int × Int)) (K : (List (List Bool) × Bool) → Prop) : Prop :=
  (mkok n_ 24) ∧
  ∃ (I1 : Int → (List (List Bool)) → Prop) (μ1 : Int → (List (List Bool)) → Nat), I1 0 (List.replicate (n_).toNat ([] : List Bool) : List (List Bool)) ∧ ∀ (t18 : Int) (t : List (List Bool)), I1 t18 t → F_closure_L1 n_ before K t18 t I1 μ1

def F_orderFault_J2 (K : Fault → Prop) (t41 : Bool) (t22 : Int) (I1 : Int → Prop) (μ1 : Int → Nat) : Prop :=
  ((t41) = true →
    K (⟨3, IntKind.i64.wrap ((-9) - t22)⟩ : Fault)) ∧
  ((t41) = false →
    I1 (IntKind.i64.wrap (t22 + 1)) ∧
  μ1 (IntKind.i64.wrap (t22 + 1)) < μ1 t22)

def F_orderFault_L1 (n_ : Int) (before : List (Int × Int)) (K : Fault → Prop) (t22 : Int) (I1 : Int → Prop) (μ1 : Int → Nat) : Prop :=
  ((decide (t22 < ((before.length : Nat) : Int))) = true →
    (inb before t22) ∧
    ∀ x : Int, x = (if ((gt before t22).2) < ((gt before t22).1) then ((gt before t22).2) else ((gt before t22).1)) →
    ((decide (x < 0)) = true →
      F_orderFault_J2 K true t22 I1 μ1) ∧
    ((decide (x < 0)) = false →
      ∀ x2 : Int, x2 = (if ((gt before t22).1) < ((gt before t22).2) then ((gt before t22).2) else ((gt before t22).1)) →
      F_orderFault_J2 K (decide (n_ ≤ x2)) t22 I1 μ1)) ∧
  ((decide (t22 < ((before.length : Nat) : Int))) = false →
    (pre_closure n_ before) ∧
    ∀ r2 : List (List Bool) × Bool, r2 = (sp_closure n_ before) →
    ((!r2.2) = true →
      K (⟨14, (-8)⟩ : Fault)) ∧
    ((!r2.2) = false →
      K (⟨0, 0⟩ : Fault)))

def F_orderFault_J1 (n_ : Int) (before : List (Int × Int)) (K : Fault → Prop) (t14 : Bool) : Prop :=
  ((t14) = true →
    K (⟨2, (-5)⟩ : Fault)) ∧
  ((t14) = false →
    ((decide (30 < ((before.length : Nat) : Int))) = true →
      K (⟨2, (-8)⟩ : Fault)) ∧
    ((decide (30 < ((before.length : Nat) : Int))) = false →
      ∃ (I1 : Int → Prop) (μ1 : Int → Nat), I1 0 ∧ ∀ (t22 : Int), I1 t22 → F_orderFault_L1 n_ before K t22 I1 μ1))

def F_orderFault (n_ : Int) (before : List (Int × Int)) (K : Fault → Prop) : Prop :=
  ((decide (n_ < 0)) = true →
    F_orderFault_J1 n_ before K true) ∧
  ((decide (n_ < 0)) = false →
    F_orderFault_J1 n_ before K (decide (7 < n_)))

def F_ready_J1 (K : Bool → Prop) (t30 : Bool) (k : Int) (I1 : Int → Prop) (μ1 : Int → Nat) : Prop :=
  ((t30) = true →
    K false) ∧
  ((t30) = false →
    I1 (IntKind.i64.wrap (k + 1)) ∧
  μ1 (IntKind.i64.wrap (k + 1)) < μ1 k)

def F_ready_L1 (before : List (Int × Int)) (done : List Int) (i : Int) (K : Bool → Prop) (k : Int) (I1 : Int → Prop) (μ1 : Int → Nat) : Prop :=
  ((decide (k < ((before.length : Nat) : Int))) = true →
    (inb before k) ∧
    ((((gt before k).2) == i) = true →
      (pre_has done ((gt before k).1)) ∧
      ∀ r2 : Bool, r2 = (sp_has done ((gt before k).1)) →
      F_ready_J1 K (!r2) k I1 μ1) ∧
    ((((gt before k).2) == i) = false →
      F_ready_J1 K false k I1 μ1)) ∧
  ((decide (k < ((before.length : Nat) : Int))) = false →
    (pre_has done i) ∧
    ∀ r3 : Bool, r3 = (sp_has done i) →
    K (!r3))

def F_ready (before : List (Int × Int)) (done : List Int) (i : Int) (K : Bool → Prop) : Prop :=
  ∃ (I1 : Int → Prop) (μ1 : Int → Nat), I1 0 ∧ ∀ (k : Int), I1 k → F_ready_L1 before done i K k I1 μ1

def F_rOrderFault_J1 (K : Fault → Prop) (t42 : Bool) (i : Int) (I1 : Int → Prop) (μ1 : Int → Nat) : Prop :=
  ((t42) = true →
    ∀ r5 : Fault, r5 = (sp_at_ 3 (IntKind.i64.wrap ((-9) - i))) →
    K r5) ∧
  ((t42) = false →
    I1 (IntKind.i64.wrap (i + 1)) ∧
  μ1 (IntKind.i64.wrap (i + 1)) < μ1 i)

def F_rOrderFault_J2 (i3 : Int) (I3 : Int → (List Int) → Prop) (μ3 : Int → (List Int) → Nat) (done3 : List Int) (done5 : List Int) : Prop :=
  I3 (IntKind.i64.wrap (i3 + 1)) done5 ∧
  μ3 (IntKind.i64.wrap (i3 + 1)) done5 < μ3 i3 done3

def F_rOrderFault_L3 (n_ : Int) (before : List (Int × Int)) (done : List Int) (i3 : Int) (I3 : Int → (List Int) → Prop) (μ3 : Int → (List Int) → Nat) (done3 : List Int) (k : Int) (I2 : Int → (List Int) → Prop) (μ2 : Int → (List Int) → Nat) : Prop :=
  ((decide (i3 < n_)) = true →
    (pre_ready before done3 i3) ∧
    ∀ r8 : Bool, r8 = (sp_ready before done3 i3) →
    ((r8) = true →
      (room ((done3 ++ ([i3] : List Int))).length 8) ∧
      F_rOrderFault_J2 i3 I3 μ3 done3 (done3 ++ ([i3] : List Int))) ∧
    ((r8) = false →
      F_rOrderFault_J2 i3 I3 μ3 done3 done3)) ∧
  ((decide (i3 < n_)) = false →
    I2 (IntKind.i64.wrap (k + 1)) done3 ∧
  μ2 (IntKind.i64.wrap (k + 1)) done3 < μ2 k done)

def F_rOrderFault_L2 (n_ : Int) (before : List (Int × Int)) (K : Fault → Prop) (done : List Int) (k : Int) (I2 : Int → (List Int) → Prop) (μ2 : Int → (List Int) → Nat) : Prop :=
  ((decide (k < n_)) = true →
    ∃ (I3 : Int → (List Int) → Prop) (μ3 : Int → (List Int) → Nat), I3 0 done ∧ ∀ (i3 : Int) (done3 : List Int), I3 i3 done3 → F_rOrderFault_L3 n_ before done i3 I3 μ3 done3 k I2 μ2) ∧
  ((decide (k < n_)) = false →
    ((decide (((done.length : Nat) : Int) < n_)) = true →
      ∀ r9 : Fault, r9 = (sp_at_ 14 (-8)) →
      K r9) ∧
    ((decide (((done.length : Nat) : Int) < n_)) = false →
      K (⟨0, 0⟩ : Fault)))

def F_rOrderFault_L1 (n_ : Int) (before : List (Int × Int)) (K : Fault → Prop) (i : Int) (I1 : Int → Prop) (μ1 : Int → Nat) : Prop :=
  ((decide (i < ((before.length : Nat) : Int))) = true →
    (inb before i) ∧
    ∀ r6 : Bool, r6 = (sp_in_ ((gt before i).1) 0 (IntKind.i64.wrap (n_ - 1))) →
    ((!r6) = true →
      F_rOrderFault_J1 K true i I1 μ1) ∧
    ((!r6) = false →
      ∀ r7 : Bool, r7 = (sp_in_ ((gt before i).2) 0 (IntKind.i64.wrap (n_ - 1))) →
      F_rOrderFault_J1 K (!r7) i I1 μ1)) ∧
  ((decide (i < ((before.length : Nat) : Int))) = false →
    ∃ (I2 : Int → (List Int) → Prop) (μ2 : Int → (List Int) → Nat), I2 0 ([] : List Int) ∧ ∀ (k : Int) (done : List Int), I2 k done → F_rOrderFault_L2 n_ before K done k I2 μ2)

def F_rOrderFault (n_ : Int) (before : List (Int × Int)) (K : Fault → Prop) : Prop :=
  ∀ r2 : Bool, r2 = (sp_in_ n_ 0 7) →
  ((!r2) = true →
    ∀ r3 : Fault, r3 = (sp_at_ 2 (-5)) →
    K r3) ∧
  ((!r2) = false →
    ((decide (30 < ((before.length : Nat) : Int))) = true →
      ∀ r4 : Fault, r4 = (sp_at_ 2 (-8)) →
      K r4) ∧
    ((decide (30 < ((before.length : Nat) : Int))) = false →
      ∃ (I1 : Int → Prop) (μ1 : Int → Nat), I1 0 ∧ ∀ (i : Int), I1 i → F_rOrderFault_L1 n_ before K i I1 μ1))

def F_pvalidate (t : Task) (steps : List Int) (before : List (Int × Int)) (K : Fault → Prop) : Prop :=
  ∀ r2 : Fault, r2 = (sp_planFault t steps) →
  ((!((r2.code == 0) && (r2.index == 0))) = true →
    K r2) ∧
  ((!((r2.code == 0) && (r2.index == 0))) = false →
    ∀ r3 : Fault, r3 = (sp_orderFault ((steps.length : Nat) : Int) before) →
    K r3)

def F_partialFault (t : Task) (steps : List Int) (before : List (Int × Int)) (K : Fault → Prop) : Prop :=
  ∀ r2 : Fault, r2 = (sp_planFault t steps) →
  ((r2.code != 0) = true →
    K r2) ∧
  ((r2.code != 0) = false →
    ∀ r3 : Fault, r3 = (sp_orderFault ((steps.length : Nat) : Int) before) →
    K r3)

def F_first_J1 (free : Bool) (t39 : Int) (I3 : Bool → Int → Prop) (μ3 : Bool → Int → Nat) (free3 : Bool) : Prop :=
  I3 free3 (IntKind.i64.wrap (t39 + 1)) ∧
  μ3 free3 (IntKind.i64.wrap (t39 + 1)) < μ3 free t39

def F_first_L3 (n_ : Int) (r3 : List (List Bool) × Bool) (free : Bool) (t39 : Int) (I3 : Bool → Int → Prop) (μ3 : Bool → Int → Nat) (t31 : Int) (I2 : Int → Prop) (μ2 : Int → Nat) (out : List Int) (I1 : (List Int) → Prop) (μ1 : (List Int) → Nat) : Prop :=
  ((decide (t39 < n_)) = true →
    ((free) = true →
      (inb r3.1 t39) ∧
      (inb (gt r3.1 t39) t31) ∧
      ((!(gt (gt r3.1 t39) t31)) = true →
        F_first_J1 free t39 I3 μ3 true) ∧
      ((!(gt (gt r3.1 t39) t31)) = false →
        (pre_index out t39) ∧
        ∀ r5 : Bool, r5 = (sp_contains out t39) →
        F_first_J1 free t39 I3 μ3 r5)) ∧
    ((free) = false →
      F_first_J1 free t39 I3 μ3 false)) ∧
  ((decide (t39 < n_)) = false →
    ((free) = true →
      (room ((out ++ ([t31] : List Int))).length 8) ∧
      I1 (out ++ ([t31] : List Int)) ∧
  μ1 (out ++ ([t31] : List Int)) < μ1 out) ∧
    ((free) = false →
      I2 (IntKind.i64.wrap (t31 + 1)) ∧
  μ2 (IntKind.i64.wrap (t31 + 1)) < μ2 t31))

def F_first_L2 (n_ : Int) (r3 : List (List Bool) × Bool) (t31 : Int) (I2 : Int → Prop) (μ2 : Int → Nat) (out : List Int) (I1 : (List Int) → Prop) (μ1 : (List Int) → Nat) : Prop :=
  ((decide (t31 < n_)) = true →
    (pre_index out t31) ∧
    ∀ r4 : Bool, r4 = (sp_contains out t31) →
    ∃ (I3 : Bool → Int → Prop) (μ3 : Bool → Int → Nat), I3 (!r4) 0 ∧ ∀ (free : Bool) (t39 : Int), I3 free t39 → F_first_L3 n_ r3 free t39 I3 μ3 t31 I2 μ2 out I1 μ1) ∧
  ((decide (t31 < n_)) = false →
    I1 out ∧
  μ1 out < μ1 out)

def F_first_L1 (n_ : Int) (K : (List Int × Fault) → Prop) (r3 : List (List Bool) × Bool) (out : List Int) (I1 : (List Int) → Prop) (μ1 : (List Int) → Nat) : Prop :=
  ((decide (((out.length : Nat) : Int) < n_)) = true →
    ∃ (I2 : Int → Prop) (μ2 : Int → Nat), I2 0 ∧ ∀ (t31 : Int), I2 t31 → F_first_L2 n_ r3 t31 I2 μ2 out I1 μ1) ∧
  ((decide (((out.length : Nat) : Int) < n_)) = false →
    K (out, (⟨0, 0⟩ : Fault)))

def F_first (n_ : Int) (before : List (Int × Int)) (K : (List Int × Fault) → Prop) : Prop :=
  ∀ r2 : Fault, r2 = (sp_orderFault n_ before) →
  ((!((r2.code == 0) && (r2.index == 0))) = true →
    K (([] : List Int), r2)) ∧
  ((!((r2.code == 0) && (r2.index == 0))) = false →
    (pre_closure n_ before) ∧
    ∀ r3 : List (List Bool) × Bool, r3 = (sp_closure n_ before) →
    ∃ (I1 : (List Int) → Prop) (μ1 : (List Int) → Nat), I1 ([] : List Int) ∧ ∀ (out : List Int), I1 out → F_first_L1 n_ K r3 out I1 μ1)

def F_count_J1 (t38 : Int) (I2 : Int → (List Int) → Prop) (μ2 : Int → (List Int) → Nat) (ways3 : List Int) (ways5 : List Int) : Prop :=
  I2 (IntKind.i64.wrap (t38 + 1)) ways5 ∧
  μ2 (IntKind.i64.wrap (t38 + 1)) ways5 < μ2 t38 ways3

def F_count_J2 (free : Bool) (t47 : Int) (I3 : Bool → Int → Prop) (μ3 : Bool → Int → Nat) (free3 : Bool) : Prop :=
  I3 free3 (IntKind.i64.wrap (t47 + 1)) ∧
  μ3 free3 (IntKind.i64.wrap (t47 + 1)) < μ3 free t47

def F_count_L3 (n_ : Int) (r3 : List (List Bool) × Bool) (free : Bool) (t47 : Int) (I3 : Bool → Int → Prop) (μ3 : Bool → Int → Nat) (t38 : Int) (I2 : Int → (List Int) → Prop) (μ2 : Int → (List Int) → Nat) (ways3 : List Int) (t34 : Int) : Prop :=
  ((decide (t47 < n_)) = true →
    ((free) = true →
      (inb r3.1 t47) ∧
      (inb (gt r3.1 t47) t38) ∧
      ((!(gt (gt r3.1 t47) t38)) = true →
        F_count_J2 free t47 I3 μ3 true) ∧
      ((!(gt (gt r3.1 t47) t38)) = false →
        (0 ≤ t47) ∧
        ∀ x3 : Int, x3 = (bits .and .i64 (Int.fdiv t34 (2 ^ (min ((t47 : Int)).toNat (IntKind.bits .i64)))) 1) →
        F_count_J2 free t47 I3 μ3 (x3 == 1))) ∧
    ((free) = false →
      F_count_J2 free t47 I3 μ3 false)) ∧
  ((decide (t47 < n_)) = false →
    ((free) = true →
      ∀ x4 : Int, x4 = (IntKind.i64.wrap (1 * 2 ^ (min ((t38 : Int)).toNat (IntKind.bits .i64)))) →
      (inb ways3 (bits .or .i64 t34 x4)) ∧
      (inb ways3 t34) ∧
      ∀ x5 : Int, x5 = (IntKind.i64.wrap ((gt ways3 (bits .or .i64 t34 x4)) + (gt ways3 t34))) →
      ∀ d2 : List Int, d2 = (ways3.set (bits .or .i64 t34 x4).toNat x5) →
      F_count_J1 t38 I2 μ2 ways3 d2) ∧
    ((free) = false →
      F_count_J1 t38 I2 μ2 ways3 ways3))

def F_count_L2 (n_ : Int) (r3 : List (List Bool) × Bool) (ways : List Int) (t38 : Int) (I2 : Int → (List Int) → Prop) (μ2 : Int → (List Int) → Nat) (ways3 : List Int) (t34 : Int) (I1 : Int → (List Int) → Prop) (μ1 : Int → (List Int) → Nat) : Prop :=
  ((decide (t38 < n_)) = true →
    (0 ≤ t38) ∧
    ∀ x2 : Int, x2 = (bits .and .i64 (Int.fdiv t34 (2 ^ (min ((t38 : Int)).toNat (IntKind.bits .i64)))) 1) →
    ∃ (I3 : Bool → Int → Prop) (μ3 : Bool → Int → Nat), I3 (x2 == 0) 0 ∧ ∀ (free : Bool) (t47 : Int), I3 free t47 → F_count_L3 n_ r3 free t47 I3 μ3 t38 I2 μ2 ways3 t34) ∧
  ((decide (t38 < n_)) = false →
    I1 (IntKind.i64.wrap (t34 + 1)) ways3 ∧
  μ1 (IntKind.i64.wrap (t34 + 1)) ways3 < μ1 t34 ways)

def F_count_L1 (n_ : Int) (K : (Int × Fault) → Prop) (r3 : List (List Bool) × Bool) (x : Int) (ways : List Int) (t34 : Int) (I1 : Int → (List Int) → Prop) (μ1 : Int → (List Int) → Nat) : Prop :=
  ((decide (t34 < (((x).toNat : Nat) : Int))) = true →
    ∃ (I2 : Int → (List Int) → Prop) (μ2 : Int → (List Int) → Nat), I2 0 ways ∧ ∀ (t38 : Int) (ways3 : List Int), I2 t38 ways3 → F_count_L2 n_ r3 ways t38 I2 μ2 ways3 t34 I1 μ1) ∧
  ((decide (t34 < (((x).toNat : Nat) : Int))) = false →
    (inb ways (IntKind.i64.wrap ((((x).toNat : Nat) : Int) - 1))) ∧
    K ((gt ways (IntKind.i64.wrap ((((x).toNat : Nat) : Int) - 1))), (⟨0, 0⟩ : Fault)))

def F_count (n_ : Int) (before : List (Int × Int)) (K : (Int × Fault) → Prop) : Prop :=
  ∀ r2 : Fault, r2 = (sp_orderFault n_ before) →
  ((!((r2.code == 0) && (r2.index == 0))) = true →
    K (0, r2)) ∧
  ((!((r2.code == 0) && (r2.index == 0))) = false →
    (pre_closure n_ before) ∧
    ∀ r3 : List (List Bool) × Bool, r3 = (sp_closure n_ before) →
    (0 ≤ n_) ∧
    ∀ x : Int, x = (IntKind.i64.wrap (1 * 2 ^ (min ((n_ : Int)).toNat (IntKind.bits .i64)))) →
    (mkok x 8) ∧
    (inb (List.replicate (x).toNat (0 : Int)) (0 : Int)) ∧
    ∀ d : List Int, d = ((List.replicate (x).toNat (0 : Int)).set ((0 : Int)).toNat 1) →
    ∃ (I1 : Int → (List Int) → Prop) (μ1 : Int → (List Int) → Nat), I1 0 d ∧ ∀ (t34 : Int) (ways : List Int), I1 t34 ways → F_count_L1 n_ K r3 x ways t34 I1 μ1)

def F_orders_J1 (out : List (List Int)) (i : Int) (I1 : Int → (List (List Int)) → Prop) (μ1 : Int → (List (List Int)) → Nat) (out3 : List (List Int)) : Prop :=
  I1 (IntKind.i64.wrap (i + 1)) out3 ∧
  μ1 (IntKind.i64.wrap (i + 1)) out3 < μ1 i out

def F_orders_L1 (n_ : Int) (before : List (Int × Int)) (done : List Int) (K : (List (List Int)) → Prop) (out : List (List Int)) (i : Int) (I1 : Int → (List (List Int)) → Prop) (μ1 : Int → (List (List Int)) → Nat) : Prop :=
  ((decide (i < n_)) = true →
    (pre_ready before done i) ∧
    ∀ r2 : Bool, r2 = (sp_ready before done i) →
    ((r2) = true →
      (room ((([] : List Int) ++ done)).length 8) ∧
      (room (((([] : List Int) ++ done) ++ ([i] : List Int))).length 8) ∧
      (pre_orders n_ before ((([] : List Int) ++ done) ++ ([i] : List Int))) ∧
      (mu_orders n_ before ((([] : List Int) ++ done) ++ ([i] : List Int)) < mu_orders n_ before done) ∧
      ∀ r3 : List (List Int), r3 = (sp_orders n_ before ((([] : List Int) ++ done) ++ ([i] : List Int))) →
      (room ((out ++ r3)).length 24) ∧
      F_orders_J1 out i I1 μ1 (out ++ r3)) ∧
    ((r2) = false →
      F_orders_J1 out i I1 μ1 out)) ∧
  ((decide (i < n_)) = false →
    K out)

def F_orders (n_ : Int) (before : List (Int × Int)) (done : List Int) (K : (List (List Int)) → Prop) : Prop :=
  ((((done.length : Nat) : Int) == n_) = true →
    K ([done] : List (List Int))) ∧
  ((((done.length : Nat) : Int) == n_) = false →
    ∃ (I1 : Int → (List (List Int)) → Prop) (μ1 : Int → (List (List Int)) → Nat), I1 0 ([] : List (List Int)) ∧ ∀ (i : Int) (out : List (List Int)), I1 i out → F_orders_L1 n_ before done K out i I1 μ1)

def F_counted (K : Bool → Prop) : Prop :=
  ∀ r2 : Int × Fault, r2 = (sp_count 3 ([(⟨0, 1⟩ : Int × Int)] : List (Int × Int))) →
  ∀ r3 : List Int × Fault, r3 = (sp_first 2 ([(⟨1, 0⟩ : Int × Int)] : List (Int × Int))) →
  ((r2.2.code == 0) = true →
    ((r3.2.code == 0) = true →
      ((r2.1 == 3) = true →
        (pre_numbers r3.1 ([1, 0] : List Int)) ∧
        ∀ r4 : Bool, r4 = (sp_numbers r3.1 ([1, 0] : List Int)) →
        K r4) ∧
      ((r2.1 == 3) = false →
        K false)) ∧
    ((r3.2.code == 0) = false →
      K false)) ∧
  ((r2.2.code == 0) = false →
    K false)

def F_lawMatches_J1 (n_ : Int) (before : List (Int × Int)) (K : Bool → Prop) (r2 : List Int × Fault) (r3 : Int × Fault) (r4 : Fault) (t48 : Bool) : Prop :=
  ((t48) = true →
    K false) ∧
  ((t48) = false →
    ((r4.code != 0) = true →
      ((((r2.1.length : Nat) : Int) == 0) = true →
        ((r3.1 == 0) = true →
          ∀ r5 : Bool, r5 = sp_counted →
          K r5) ∧
        ((r3.1 == 0) = false →
          K false)) ∧
      ((((r2.1.length : Nat) : Int) == 0) = false →
        K false)) ∧
    ((r4.code != 0) = false →
      (pre_orders n_ before []) ∧
      ∀ r6 : List (List Int), r6 = (sp_orders n_ before []) →
      ((decide (0 < ((r6.length : Nat) : Int))) = true →
        (inb r6 (0 : Int)) ∧
        (pre_numbers r2.1 (gt r6 (0 : Int))) ∧
        ∀ r7 : Bool, r7 = (sp_numbers r2.1 (gt r6 (0 : Int))) →
        ((r7) = true →
          ((r3.1 == ((r6.length : Nat) : Int)) = true →
            ∀ r8 : Bool, r8 = sp_counted →
            K r8) ∧
          ((r3.1 == ((r6.length : Nat) : Int)) = false →
            K false)) ∧
        ((r7) = false →
          K false)) ∧
      ((decide (0 < ((r6.length : Nat) : Int))) = false →
        K false)))

def F_lawMatches (t : Task) (steps : List Int) (n_ : Int) (before : List (Int × Int)) (K : Bool → Prop) : Prop :=
  ∀ r2 : List Int × Fault, r2 = (sp_first n_ before) →
  ∀ r3 : Int × Fault, r3 = (sp_count n_ before) →
  ∀ r4 : Fault, r4 = (sp_orderFault n_ before) →
  ∀ r9 : Fault, r9 = (sp_pvalidate t steps before) →
  ∀ r10 : Fault, r10 = (sp_pvalidate t steps before) →
  ((!((r9.code == r10.code) && (r9.index == r10.index))) = true →
    F_lawMatches_J1 n_ before K r2 r3 r4 true) ∧
  ((!((r9.code == r10.code) && (r9.index == r10.index))) = false →
    ((!((r2.2.code == r4.code) && (r2.2.index == r4.index))) = true →
      F_lawMatches_J1 n_ before K r2 r3 r4 true) ∧
    ((!((r2.2.code == r4.code) && (r2.2.index == r4.index))) = false →
      F_lawMatches_J1 n_ before K r2 r3 r4 (!((r3.2.code == r4.code) && (r3.2.index == r4.index)))))

def F_earlier (p : PPlan) (i : Int) (j : Int) (K : Bool → Prop) : Prop :=
  ((j == ((p.steps.length : Nat) : Int)) = true →
    K true) ∧
  ((j == ((p.steps.length : Nat) : Int)) = false →
    (inb p.order i) ∧
    (inb (gt p.order i) j) ∧
    K (gt (gt p.order i) j))

def F_later (p : PPlan) (i : Int) (j : Int) (K : Bool → Prop) : Prop :=
  ((i == j) = true →
    K true) ∧
  ((i == j) = false →
    ((decide (j < ((p.steps.length : Nat) : Int))) = true →
      (inb p.order j) ∧
      (inb (gt p.order j) i) ∧
      K (gt (gt p.order j) i)) ∧
    ((decide (j < ((p.steps.length : Nat) : Int))) = false →
      K false))

def F_adds (p : PPlan) (i : Int) (fact : Int) (K : Bool → Prop) : Prop :=
  (inb p.steps i) ∧
  (inb p.t.ops (gt p.steps i)) ∧
  (pre_index ((gt p.t.ops (gt p.steps i)).add) fact) ∧
  ∀ r2 : Bool, r2 = (sp_contains ((gt p.t.ops (gt p.steps i)).add) fact) →
  K r2

def F_deletes (p : PPlan) (i : Int) (fact : Int) (K : Bool → Prop) : Prop :=
  (inb p.steps i) ∧
  (inb p.t.ops (gt p.steps i)) ∧
  (pre_index ((gt p.t.ops (gt p.steps i)).del) fact) ∧
  ∀ r2 : Bool, r2 = (sp_contains ((gt p.t.ops (gt p.steps i)).del) fact) →
  K r2

def F_certain_J1 (made : Bool) (t20 : Int) (I1 : Bool → Int → Prop) (μ1 : Bool → Int → Nat) (made3 : Bool) : Prop :=
  I1 made3 (IntKind.i64.wrap (t20 + 1)) ∧
  μ1 made3 (IntKind.i64.wrap (t20 + 1)) < μ1 made t20

def F_certain_J2 (t47 : Int) (I2 : Int → Prop) (μ2 : Int → Nat) : Prop :=
  I2 (IntKind.i64.wrap (t47 + 1)) ∧
  μ2 (IntKind.i64.wrap (t47 + 1)) < μ2 t47

def F_certain_J4 (repaired : Bool) (t64 : Int) (I3 : Bool → Int → Prop) (μ3 : Bool → Int → Nat) (repaired3 : Bool) : Prop :=
  I3 repaired3 (IntKind.i64.wrap (t64 + 1)) ∧
  μ3 repaired3 (IntKind.i64.wrap (t64 + 1)) < μ3 repaired t64

def F_certain_L3 (p : PPlan) (fact : Int) (j : Int) (K : Bool → Prop) (repaired : Bool) (t64 : Int) (I3 : Bool → Int → Prop) (μ3 : Bool → Int → Nat) (t47 : Int) (I2 : Int → Prop) (μ2 : Int → Nat) : Prop :=
  ((decide (t64 < ((p.steps.length : Nat) : Int))) = true →
    ((repaired) = true →
      F_certain_J4 repaired t64 I3 μ3 true) ∧
    ((repaired) = false →
      ((t64 != j) = true →
        (pre_adds p t64 fact) ∧
        ∀ r5 : Bool, r5 = (sp_adds p t64 fact) →
        ((r5) = true →
          (inb p.order t47) ∧
          (inb (gt p.order t47) t64) ∧
          (((gt (gt p.order t47) t64)) = true →
            (pre_earlier p t64 j) ∧
            ∀ r6 : Bool, r6 = (sp_earlier p t64 j) →
            F_certain_J4 repaired t64 I3 μ3 r6) ∧
          (((gt (gt p.order t47) t64)) = false →
            F_certain_J4 repaired t64 I3 μ3 false)) ∧
        ((r5) = false →
          F_certain_J4 repaired t64 I3 μ3 false)) ∧
      ((t64 != j) = false →
        F_certain_J4 repaired t64 I3 μ3 false))) ∧
  ((decide (t64 < ((p.steps.length : Nat) : Int))) = false →
    ((!repaired) = true →
      K false) ∧
    ((!repaired) = false →
      F_certain_J2 t47 I2 μ2))

def F_certain_J3 (p : PPlan) (fact : Int) (j : Int) (K : Bool → Prop) (t60 : Bool) (t47 : Int) (I2 : Int → Prop) (μ2 : Int → Nat) : Prop :=
  ((t60) = true →
    F_certain_J2 t47 I2 μ2) ∧
  ((t60) = false →
    ∃ (I3 : Bool → Int → Prop) (μ3 : Bool → Int → Nat), I3 false 0 ∧ ∀ (repaired : Bool) (t64 : Int), I3 repaired t64 → F_certain_L3 p fact j K repaired t64 I3 μ3 t47 I2 μ2)

def F_certain_L2 (p : PPlan) (fact : Int) (j : Int) (K : Bool → Prop) (t47 : Int) (I2 : Int → Prop) (μ2 : Int → Nat) : Prop :=
  ((decide (t47 < ((p.steps.length : Nat) : Int))) = true →
    (pre_adds p t47 fact) ∧
    ∀ r7 : Bool, r7 = (sp_deletes p t47 fact) →
    ((!r7) = true →
      F_certain_J3 p fact j K true t47 I2 μ2) ∧
    ((!r7) = false →
      (pre_later p t47 j) ∧
      ∀ r8 : Bool, r8 = (sp_later p t47 j) →
      F_certain_J3 p fact j K r8 t47 I2 μ2)) ∧
  ((decide (t47 < ((p.steps.length : Nat) : Int))) = false →
    K true)

def F_certain_L1 (p : PPlan) (fact : Int) (j : Int) (K : Bool → Prop) (made : Bool) (t20 : Int) (I1 : Bool → Int → Prop) (μ1 : Bool → Int → Nat) : Prop :=
  ((decide (t20 < ((p.steps.length : Nat) : Int))) = true →
    ((made) = true →
      F_certain_J1 made t20 I1 μ1 true) ∧
    ((made) = false →
      ((t20 != j) = true →
        (pre_earlier p t20 j) ∧
        ∀ r3 : Bool, r3 = (sp_earlier p t20 j) →
        ((r3) = true →
          (pre_adds p t20 fact) ∧
          ∀ r4 : Bool, r4 = (sp_adds p t20 fact) →
          F_certain_J1 made t20 I1 μ1 r4) ∧
        ((r3) = false →
          F_certain_J1 made t20 I1 μ1 false)) ∧
      ((t20 != j) = false →
        F_certain_J1 made t20 I1 μ1 false))) ∧
  ((decide (t20 < ((p.steps.length : Nat) : Int))) = false →
    ((!made) = true →
      K false) ∧
    ((!made) = false →
      ∃ (I2 : Int → Prop) (μ2 : Int → Nat), I2 0 ∧ ∀ (t47 : Int), I2 t47 → F_certain_L2 p fact j K t47 I2 μ2))

def F_certain (p : PPlan) (fact : Int) (j : Int) (K : Bool → Prop) : Prop :=
  (pre_index p.t.init fact) ∧
  ∀ r2 : Bool, r2 = (sp_contains p.t.init fact) →
  ∃ (I1 : Bool → Int → Prop) (μ1 : Bool → Int → Nat), I1 r2 0 ∧ ∀ (made : Bool) (t20 : Int), I1 made t20 → F_certain_L1 p fact j K made t20 I1 μ1

def F_pcheck1 (fact : Int) (x : PPlan) (x2 : Int) (K : Bool → Prop) : Prop :=
  (pre_certain x fact x2) ∧
  ∀ r2 : Bool, r2 = (sp_certain x fact x2) →
  K (!r2)

def F_pcheck_J1 (t : Task) (steps : List Int) (K : (Bool × Fault) → Prop) (r3 : List (List Bool) × Bool) (need : List Int) (t36 : Int) (I1 : Int → Prop) (μ1 : Int → Nat) : Prop :=
  (pre_any need (fun y_ : Int => sp_pcheck1 y_ (⟨t, steps, r3.1⟩ : PPlan) t36) (fun y_ : Int => pre_pcheck1 y_ (⟨t, steps, r3.1⟩ : PPlan) t36)) ∧
  ∀ r4 : Bool, r4 = (sp_any need (fun y_ : Int => sp_pcheck1 y_ (⟨t, steps, r3.1⟩ : PPlan) t36) (fun y_ : Int => pre_pcheck1 y_ (⟨t, steps, r3.1⟩ : PPlan) t36)) →
  ((r4) = true →
    K (false, (⟨0, 0⟩ : Fault))) ∧
  ((r4) = false →
    I1 (IntKind.i64.wrap (t36 + 1)) ∧
  μ1 (IntKind.i64.wrap (t36 + 1)) < μ1 t36)

def F_pcheck_L1 (t : Task) (steps : List Int) (K : (Bool × Fault) → Prop) (r3 : List (List Bool) × Bool) (t36 : Int) (I1 : Int → Prop) (μ1 : Int → Nat) : Prop :=
  ∀ x : Bool, x = (decide (t36 < (IntKind.i64.wrap (((steps.length : Nat) : Int) + 1)))) →
  ((x) = true →
    ((decide (t36 < ((steps.length : Nat) : Int))) = true →
      (inb steps t36) ∧
      (inb t.ops (gt steps t36)) ∧
      F_pcheck_J1 t steps K r3 ((gt t.ops (gt steps t36)).pre) t36 I1 μ1) ∧
    ((decide (t36 < ((steps.length : Nat) : Int))) = false →
      F_pcheck_J1 t steps K r3 t.goal t36 I1 μ1)) ∧
  ((x) = false →
    K (true, (⟨0, 0⟩ : Fault)))

def F_pcheck (t : Task) (steps : List Int) (before : List (Int × Int)) (K : (Bool × Fault) → Prop) : Prop :=
  ∀ r2 : Fault, r2 = (sp_pvalidate t steps before) →
  ((!((r2.code == 0) && (r2.index == 0))) = true →
    K (false, r2)) ∧
  ((!((r2.code == 0) && (r2.index == 0))) = false →
    (pre_closure ((steps.length : Nat) : Int) before) ∧
    ∀ r3 : List (List Bool) × Bool, r3 = (sp_closure ((steps.length : Nat) : Int) before) →
    ∃ (I1 : Int → Prop) (μ1 : Int → Nat), I1 0 ∧ ∀ (t36 : Int), I1 t36 → F_pcheck_L1 t steps K r3 t36 I1 μ1)

def F_subset_L1 (part : List Int) (l : List Int) (K : Bool → Prop) (i : Int) (I1 : Int → Prop) (μ1 : Int → Nat) : Prop :=
  ((decide (i < ((part.length : Nat) : Int))) = true →
    (inb part i) ∧
    (pre_has l (gt part i)) ∧
    ∀ r2 : Bool, r2 = (sp_has l (gt part i)) →
    ((!r2) = true →
      K false) ∧
    ((!r2) = false →
      I1 (IntKind.i64.wrap (i + 1)) ∧
  μ1 (IntKind.i64.wrap (i + 1)) < μ1 i)) ∧
  ((decide (i < ((part.length : Nat) : Int))) = false →
    K true)

def F_subset (part : List Int) (l : List Int) (K : Bool → Prop) : Prop :=
  ∃ (I1 : Int → Prop) (μ1 : Int → Nat), I1 0 ∧ ∀ (i : Int), I1 i → F_subset_L1 part l K i I1 μ1

def F_applies (t : Task) (s_ : List Int) (op : Int) (K : Bool → Prop) : Prop :=
  (inb t.ops op) ∧
  (pre_subset ((gt t.ops op).pre) s_) ∧
  ∀ r2 : Bool, r2 = (sp_subset ((gt t.ops op).pre) s_) →
  K r2

def F_after_J1 (out : List Int) (p : Int) (I1 : Int → (List Int) → Prop) (μ1 : Int → (List Int) → Nat) (out3 : List Int) : Prop :=
  I1 (IntKind.i64.wrap (p + 1)) out3 ∧
  μ1 (IntKind.i64.wrap (p + 1)) out3 < μ1 p out

def F_after_J2 (t38 : Bool) (out : List Int) (p : Int) (I1 : Int → (List Int) → Prop) (μ1 : Int → (List Int) → Nat) : Prop :=
  ((t38) = true →
    (room ((out ++ ([p] : List Int))).length 8) ∧
    F_after_J1 out p I1 μ1 (out ++ ([p] : List Int))) ∧
  ((t38) = false →
    F_after_J1 out p I1 μ1 out)

def F_after_L1 (t : Task) (s_ : List Int) (op : Int) (K : (List Int) → Prop) (out : List Int) (p : Int) (I1 : Int → (List Int) → Prop) (μ1 : Int → (List Int) → Nat) : Prop :=
  ((decide (p < t.facts)) = true →
    (inb t.ops op) ∧
    (pre_has ((gt t.ops op).add) p) ∧
    ∀ r2 : Bool, r2 = (sp_has ((gt t.ops op).add) p) →
    ((r2) = true →
      F_after_J2 true out p I1 μ1) ∧
    ((r2) = false →
      (pre_has s_ p) ∧
      ∀ r3 : Bool, r3 = (sp_has s_ p) →
      ((r3) = true →
        (pre_has ((gt t.ops op).del) p) ∧
        ∀ r4 : Bool, r4 = (sp_has ((gt t.ops op).del) p) →
        F_after_J2 (!r4) out p I1 μ1) ∧
      ((r3) = false →
        F_after_J2 false out p I1 μ1))) ∧
  ((decide (p < t.facts)) = false →
    K out)

def F_after (t : Task) (s_ : List Int) (op : Int) (K : (List Int) → Prop) : Prop :=
  ∃ (I1 : Int → (List Int) → Prop) (μ1 : Int → (List Int) → Nat), I1 0 ([] : List Int) ∧ ∀ (p : Int) (out : List Int), I1 p out → F_after_L1 t s_ op K out p I1 μ1

def F_ends_L1 (t : Task) (plan : List Int) (K : (List Int × Bool) → Prop) (s_2 : List Int) (i : Int) (I1 : (List Int) → Int → Prop) (μ1 : (List Int) → Int → Nat) : Prop :=
  ((decide (i < ((plan.length : Nat) : Int))) = true →
    (inb plan i) ∧
    (pre_applies t s_2 (gt plan i)) ∧
    ∀ r2 : Bool, r2 = (sp_applies t s_2 (gt plan i)) →
    ((!r2) = true →
      K (([] : List Int), false)) ∧
    ((!r2) = false →
      (pre_after t s_2 (gt plan i)) ∧
      ∀ r3 : List Int, r3 = (sp_after t s_2 (gt plan i)) →
      I1 r3 (IntKind.i64.wrap (i + 1)) ∧
  μ1 r3 (IntKind.i64.wrap (i + 1)) < μ1 s_2 i)) ∧
  ((decide (i < ((plan.length : Nat) : Int))) = false →
    K (s_2, true))

def F_ends (t : Task) (s_ : List Int) (plan : List Int) (K : (List Int × Bool) → Prop) : Prop :=
  ∃ (I1 : (List Int) → Int → Prop) (μ1 : (List Int) → Int → Nat), I1 s_ 0 ∧ ∀ (s_2 : List Int) (i : Int), I1 s_2 i → F_ends_L1 t plan K s_2 i I1 μ1

def F_rworks (t : Task) (s_ : List Int) (plan : List Int) (K : Bool → Prop) : Prop :=
  (pre_ends t s_ plan) ∧
  ∀ r2 : List Int × Bool, r2 = (sp_ends t s_ plan) →
  ((r2.2) = true →
    (pre_subset t.goal r2.1) ∧
    ∀ r3 : Bool, r3 = (sp_subset t.goal r2.1) →
    K r3) ∧
  ((r2.2) = false →
    K false)

def F_rsolves (t : Task) (plan : List Int) (K : Bool → Prop) : Prop :=
  (pre_rworks t t.init plan) ∧
  ∀ r2 : Bool, r2 = (sp_rworks t t.init plan) →
  K r2

def F_allWork_L2 (t : Task) (steps : List Int) (K : Bool → Prop) (r2 : List (List Int)) (i : Int) (plan : List Int) (I2 : Int → (List Int) → Prop) (μ2 : Int → (List Int) → Nat) (k : Int) (I1 : Int → Prop) (μ1 : Int → Nat) : Prop :=
  ((decide (i < ((steps.length : Nat) : Int))) = true →
    (inb r2 k) ∧
    (inb (gt r2 k) i) ∧
    (inb steps (gt (gt r2 k) i)) ∧
    (room ((plan ++ ([(gt steps (gt (gt r2 k) i))] : List Int))).length 8) ∧
    I2 (IntKind.i64.wrap (i + 1)) (plan ++ ([(gt steps (gt (gt r2 k) i))] : List Int)) ∧
  μ2 (IntKind.i64.wrap (i + 1)) (plan ++ ([(gt steps (gt (gt r2 k) i))] : List Int)) < μ2 i plan) ∧
  ((decide (i < ((steps.length : Nat) : Int))) = false →
    (pre_rsolves t plan) ∧
    ∀ r3 : Bool, r3 = (sp_rsolves t plan) →
    ((!r3) = true →
      K false) ∧
    ((!r3) = false →
      I1 (IntKind.i64.wrap (k + 1)) ∧
  μ1 (IntKind.i64.wrap (k + 1)) < μ1 k))

def F_allWork_L1 (t : Task) (steps : List Int) (K : Bool → Prop) (r2 : List (List Int)) (k : Int) (I1 : Int → Prop) (μ1 : Int → Nat) : Prop :=
  ((decide (k < ((r2.length : Nat) : Int))) = true →
    ∃ (I2 : Int → (List Int) → Prop) (μ2 : Int → (List Int) → Nat), I2 0 ([] : List Int) ∧ ∀ (i : Int) (plan : List Int), I2 i plan → F_allWork_L2 t steps K r2 i plan I2 μ2 k I1 μ1) ∧
  ((decide (k < ((r2.length : Nat) : Int))) = false →
    K true)

def F_allWork (t : Task) (steps : List Int) (before : List (Int × Int)) (K : Bool → Prop) : Prop :=
  (pre_orders ((steps.length : Nat) : Int) before []) ∧
  ∀ r2 : List (List Int), r2 = (sp_orders ((steps.length : Nat) : Int) before []) →
  ∃ (I1 : Int → Prop) (μ1 : Int → Nat), I1 0 ∧ ∀ (k : Int), I1 k → F_allWork_L1 t steps K r2 k I1 μ1

def F_lawCheck (t : Task) (steps : List Int) (before : List (Int × Int)) (K : Bool → Prop) : Prop :=
  ∀ r2 : Bool × Fault, r2 = (sp_pcheck t steps before) →
  ∀ r3 : Fault, r3 = (sp_pvalidate t steps before) →
  ((r3.code != 0) = true →
    (((r2.2.code == r3.code) && (r2.2.index == r3.index)) = true →
      ((!r2.1) = true →
        ∀ r4 : Bool, r4 = sp_counted →
        K r4) ∧
      ((!r2.1) = false →
        K false)) ∧
    (((r2.2.code == r3.code) && (r2.2.index == r3.index)) = false →
      K false)) ∧
  ((r3.code != 0) = false →
    ((r2.2.code == 0) = true →
      (pre_allWork t steps before) ∧
      ∀ r5 : Bool, r5 = (sp_allWork t steps before) →
      ((r2.1 == r5) = true →
        ∀ r6 : Bool, r6 = sp_counted →
        K r6) ∧
      ((r2.1 == r5) = false →
        K false)) ∧
    ((r2.2.code == 0) = false →
      K false))

def F_lawMore_J2 (K : Bool → Prop) (r2 : Bool × Fault) (r3 : Bool × Fault) (r4 : Int × Fault) (r5 : Int × Fault) (t59 : Bool) : Prop :=
  ((t59) = true →
    ∀ r6 : Bool, r6 = sp_counted →
    K r6) ∧
  ((t59) = false →
    ((r4.2.code == 0) = true →
      ((r5.2.code == 0) = true →
        ((!r2.1) = true →
          ((decide (r5.1 ≤ r4.1)) = true →
            ((decide (1 ≤ r5.1)) = true →
              ∀ r7 : Bool, r7 = sp_counted →
              K r7) ∧
            ((decide (1 ≤ r5.1)) = false →
              K false)) ∧
          ((decide (r5.1 ≤ r4.1)) = false →
            K false)) ∧
        ((!r2.1) = false →
          ((r3.1) = true →
            ((decide (r5.1 ≤ r4.1)) = true →
              ((decide (1 ≤ r5.1)) = true →
                ∀ r8 : Bool, r8 = sp_counted →
                K r8) ∧
              ((decide (1 ≤ r5.1)) = false →
                K false)) ∧
            ((decide (r5.1 ≤ r4.1)) = false →
              K false)) ∧
          ((r3.1) = false →
            K false))) ∧
      ((r5.2.code == 0) = false →
        K false)) ∧
    ((r4.2.code == 0) = false →
      K false))

def F_lawMore_J1 (t : Task) (steps : List Int) (before : List (Int × Int)) (b : Int × Int) (K : Bool → Prop) : Prop :=
  ∀ r2 : Bool × Fault, r2 = (sp_pcheck t steps before) →
  ∀ r3 : Bool × Fault, r3 = (sp_pcheck t steps ((([] : List (Int × Int)) ++ before) ++ ([b] : List (Int × Int)))) →
  ∀ r4 : Int × Fault, r4 = (sp_count ((steps.length : Nat) : Int) before) →
  ∀ r5 : Int × Fault, r5 = (sp_count ((steps.length : Nat) : Int) ((([] : List (Int × Int)) ++ before) ++ ([b] : List (Int × Int)))) →
  ((r2.2.code != 0) = true →
    F_lawMore_J2 K r2 r3 r4 r5 true) ∧
  ((r2.2.code != 0) = false →
    F_lawMore_J2 K r2 r3 r4 r5 (r3.2.code != 0))

def F_lawMore (t : Task) (steps : List Int) (before : List (Int × Int)) (b : Int × Int) (K : Bool → Prop) : Prop :=
  (room ((([] : List (Int × Int)) ++ before)).length 16) ∧
  (room (((([] : List (Int × Int)) ++ before) ++ ([b] : List (Int × Int)))).length 16) ∧
  F_lawMore_J1 t steps before b K

def F_clone (s_ : List Int) (K : (List Int) → Prop) : Prop :=
  (s_ = [] → 
    K ([] : List Int)) ∧
  (room ((([] : List Int) ++ s_)).length 8) ∧
  K (([] : List Int) ++ s_)

def F_update_J1 (out : List Int) (t14 : Int) (I1 : Int → (List Int) → Prop) (μ1 : Int → (List Int) → Nat) (out3 : List Int) : Prop :=
  I1 (IntKind.i64.wrap (t14 + 1)) out3 ∧
  μ1 (IntKind.i64.wrap (t14 + 1)) out3 < μ1 t14 out

def F_update_L1 (s_ : List Int) (add : List Int) (del : List Int) (K : (List Int) → Prop) (out : List Int) (t14 : Int) (I1 : Int → (List Int) → Prop) (μ1 : Int → (List Int) → Nat) : Prop :=
  ((decide (t14 < ((s_.length : Nat) : Int))) = true →
    (inb s_ t14) ∧
    (pre_bsearch del (gt s_ t14)) ∧
    ∀ r2 : Int × Bool, r2 = (sp_bsearch del (gt s_ t14)) →
    ((!r2.2) = true →
      (room ((out ++ ([(gt s_ t14)] : List Int))).length 8) ∧
      F_update_J1 out t14 I1 μ1 (out ++ ([(gt s_ t14)] : List Int))) ∧
    ((!r2.2) = false →
      F_update_J1 out t14 I1 μ1 out)) ∧
  ((decide (t14 < ((s_.length : Nat) : Int))) = false →
    (room ((out ++ add)).length 8) ∧
    (pre_sort (out ++ add)) ∧
    ∀ r3 : List Int, r3 = (sp_sort (out ++ add)) →
    (pre_compact r3) ∧
    ∀ r4 : List Int, r4 = (sp_compact r3) →
    K r4)

def F_update (s_ : List Int) (add : List Int) (del : List Int) (K : (List Int) → Prop) : Prop :=
  ∃ (I1 : Int → (List Int) → Prop) (μ1 : Int → (List Int) → Nat), I1 0 ([] : List Int) ∧ ∀ (t14 : Int) (out : List Int), I1 t14 out → F_update_L1 s_ add del K out t14 I1 μ1

def F_contains2_J2 (K : Bool → Prop) (i : Int) (t39 : Bool) (t10 : Int) (i3 : Int) (I1 : Int → Int → Prop) (μ1 : Int → Int → Nat) : Prop :=
  ((t39) = true →
    K false) ∧
  ((t39) = false →
    I1 i3 (IntKind.i64.wrap (t10 + 1)) ∧
  μ1 i3 (IntKind.i64.wrap (t10 + 1)) < μ1 i t10)

def F_contains2_J1 (s_ : List Int) (part : List Int) (K : Bool → Prop) (t25 : Bool) (i : Int) (I2 : Int → Prop) (μ2 : Int → Nat) (t10 : Int) (i3 : Int) (I1 : Int → Int → Prop) (μ1 : Int → Int → Nat) : Prop :=
  ((t25) = true →
    I2 (IntKind.i64.wrap (i3 + 1)) ∧
  μ2 (IntKind.i64.wrap (i3 + 1)) < μ2 i3) ∧
  ((t25) = false →
    ((i3 == ((s_.length : Nat) : Int)) = true →
      F_contains2_J2 K i true t10 i3 I1 μ1) ∧
    ((i3 == ((s_.length : Nat) : Int)) = false →
      (inb s_ i3) ∧
      F_contains2_J2 K i ((gt s_ i3) != (gt part t10)) t10 i3 I1 μ1))

def F_contains2_L2 (s_ : List Int) (part : List Int) (K : Bool → Prop) (i : Int) (I2 : Int → Prop) (μ2 : Int → Nat) (t10 : Int) (i3 : Int) (I1 : Int → Int → Prop) (μ1 : Int → Int → Nat) : Prop :=
  ((decide (i3 < ((s_.length : Nat) : Int))) = true →
    (inb s_ i3) ∧
    F_contains2_J1 s_ part K (decide ((gt s_ i3) < (gt part t10))) i I2 μ2 t10 i3 I1 μ1) ∧
  ((decide (i3 < ((s_.length : Nat) : Int))) = false →
    F_contains2_J1 s_ part K false i I2 μ2 t10 i3 I1 μ1)

def F_contains2_L1 (s_ : List Int) (part : List Int) (K : Bool → Prop) (i : Int) (t10 : Int) (I1 : Int → Int → Prop) (μ1 : Int → Int → Nat) : Prop :=
  ((decide (t10 < ((part.length : Nat) : Int))) = true →
    (inb part t10) ∧
    ∃ (I2 : Int → Prop) (μ2 : Int → Nat), I2 i ∧ ∀ (i3 : Int), I2 i3 → F_contains2_L2 s_ part K i I2 μ2 t10 i3 I1 μ1) ∧
  ((decide (t10 < ((part.length : Nat) : Int))) = false →
    K true)

def F_contains2 (s_ : List Int) (part : List Int) (K : Bool → Prop) : Prop :=
  ∃ (I1 : Int → Int → Prop) (μ1 : Int → Int → Nat), I1 0 0 ∧ ∀ (i : Int) (t10 : Int), I1 i t10 → F_contains2_L1 s_ part K i t10 I1 μ1

def F_can (t : Task) (s_ : List Int) (op : Int) (K : Bool → Prop) : Prop :=
  (inb t.ops op) ∧
  (pre_contains2 s_ ((gt t.ops op).pre)) ∧
  ∀ r2 : Bool, r2 = (sp_contains2 s_ ((gt t.ops op).pre)) →
  K r2

def F_next (t : Task) (s_ : List Int) (op : Int) (K : (List Int) → Prop) : Prop :=
  (inb t.ops op) ∧
  (pre_update s_ ((gt t.ops op).add) ((gt t.ops op).del)) ∧
  ∀ r2 : List Int, r2 = (sp_update s_ ((gt t.ops op).add) ((gt t.ops op).del)) →
  K r2

def F_srun_L1 (t : Task) (plan : List Int) (K : (List (List Int)) → Prop) (s_2 : List Int) (t15 : Int) (out : List (List Int)) (I1 : (List Int) → Int → (List (List Int)) → Prop) (μ1 : (List Int) → Int → (List (List Int)) → Nat) : Prop :=
  ((decide (t15 < ((plan.length : Nat) : Int))) = true →
    (inb plan t15) ∧
    (pre_can t s_2 (gt plan t15)) ∧
    ∀ r3 : Bool, r3 = (sp_applies t s_2 (gt plan t15)) →
    ((!r3) = true →
      K out) ∧
    ((!r3) = false →
      (pre_next t s_2 (gt plan t15)) ∧
      ∀ r4 : List Int, r4 = (sp_after t s_2 (gt plan t15)) →
      (room ((out ++ ([r4] : List (List Int)))).length 24) ∧
      I1 r4 (IntKind.i64.wrap (t15 + 1)) (out ++ ([r4] : List (List Int))) ∧
  μ1 r4 (IntKind.i64.wrap (t15 + 1)) (out ++ ([r4] : List (List Int))) < μ1 s_2 t15 out)) ∧
  ((decide (t15 < ((plan.length : Nat) : Int))) = false →
    K out)

def F_srun (t : Task) (s_ : List Int) (plan : List Int) (K : (List (List Int)) → Prop) : Prop :=
  (pre_clone s_) ∧
  ∀ r2 : List Int, r2 = (sp_clone s_) →
  ∃ (I1 : (List Int) → Int → (List (List Int)) → Prop) (μ1 : (List Int) → Int → (List (List Int)) → Nat), I1 s_ 0 ([r2] : List (List Int)) ∧ ∀ (s_2 : List Int) (t15 : Int) (out : List (List Int)), I1 s_2 t15 out → F_srun_L1 t plan K s_2 t15 out I1 μ1

def F_works (t : Task) (s_ : List Int) (plan : List Int) (K : Bool → Prop) : Prop :=
  (pre_srun t s_ plan) ∧
  ∀ r2 : List (List Int), r2 = (sp_srun t s_ plan) →
  ∀ x : Bool, x = (((r2.length : Nat) : Int) == (IntKind.i64.wrap (((plan.length : Nat) : Int) + 1))) →
  ((x) = true →
    (inb r2 ((plan.length : Nat) : Int)) ∧
    (pre_contains2 (gt r2 ((plan.length : Nat) : Int)) t.goal) ∧
    ∀ r3 : Bool, r3 = (sp_contains2 (gt r2 ((plan.length : Nat) : Int)) t.goal) →
    K r3) ∧
  ((x) = false →
    K false)

def F_solves (t : Task) (plan : List Int) (K : (Bool × Fault) → Prop) : Prop :=
  ∀ r2 : Fault, r2 = (sp_planFault t plan) →
  ((!((r2.code == 0) && (r2.index == 0))) = true →
    K (false, r2)) ∧
  ((!((r2.code == 0) && (r2.index == 0))) = false →
    (pre_works t t.init plan) ∧
    ∀ r3 : Bool, r3 = (sp_rworks t t.init plan) →
    K (r3, (⟨0, 0⟩ : Fault)))

def F_interfere_J1 (t : Task) (a : Int) (b : Int) (K : Bool → Prop) : Prop :=
  (pre_meets ((gt t.ops a).add) ((gt t.ops b).pre)) ∧
  ∀ r2 : Bool, r2 = (sp_meets ((gt t.ops a).add) ((gt t.ops b).pre)) →
  ((r2) = true →
    K true) ∧
  ((r2) = false →
    (pre_meets ((gt t.ops a).del) ((gt t.ops b).pre)) ∧
    ∀ r3 : Bool, r3 = (sp_meets ((gt t.ops a).del) ((gt t.ops b).pre)) →
    ((r3) = true →
      K true) ∧
    ((r3) = false →
      (pre_meets ((gt t.ops b).add) ((gt t.ops a).pre)) ∧
      ∀ r4 : Bool, r4 = (sp_meets ((gt t.ops b).add) ((gt t.ops a).pre)) →
      ((r4) = true →
        K true) ∧
      ((r4) = false →
        (pre_meets ((gt t.ops b).del) ((gt t.ops a).pre)) ∧
        ∀ r5 : Bool, r5 = (sp_meets ((gt t.ops b).del) ((gt t.ops a).pre)) →
        ((r5) = true →
          K true) ∧
        ((r5) = false →
          (pre_meets ((gt t.ops a).add) ((gt t.ops b).del)) ∧
          ∀ r6 : Bool, r6 = (sp_meets ((gt t.ops a).add) ((gt t.ops b).del)) →
          ((r6) = true →
            K true) ∧
          ((r6) = false →
            (pre_meets ((gt t.ops a).del) ((gt t.ops b).add)) ∧
            ∀ r7 : Bool, r7 = (sp_meets ((gt t.ops a).del) ((gt t.ops b).add)) →
            K r7)))))

def F_interfere (t : Task) (a : Int) (b : Int) (K : Bool → Prop) : Prop :=
  (inb t.ops a) ∧
  (inb t.ops b) ∧
  F_interfere_J1 t a b K

def F_deorder_J1 (j : Int) (I2 : Int → (List (Int × Int)) → Prop) (μ2 : Int → (List (Int × Int)) → Nat) (out3 : List (Int × Int)) (out5 : List (Int × Int)) : Prop :=
  I2 (IntKind.i64.wrap (j + 1)) out5 ∧
  μ2 (IntKind.i64.wrap (j + 1)) out5 < μ2 j out3

def F_deorder_L2 (t : Task) (plan : List Int) (out : List (Int × Int)) (j : Int) (I2 : Int → (List (Int × Int)) → Prop) (μ2 : Int → (List (Int × Int)) → Nat) (out3 : List (Int × Int)) (t30 : Int) (I1 : Int → (List (Int × Int)) → Prop) (μ1 : Int → (List (Int × Int)) → Nat) : Prop :=
  ((decide (j < ((plan.length : Nat) : Int))) = true →
    (inb plan t30) ∧
    (inb plan j) ∧
    (pre_interfere t (gt plan t30) (gt plan j)) ∧
    ∀ r4 : Bool, r4 = (sp_interfere t (gt plan t30) (gt plan j)) →
    ((r4) = true →
      (room ((out3 ++ ([(⟨t30, j⟩ : Int × Int)] : List (Int × Int)))).length 16) ∧
      F_deorder_J1 j I2 μ2 out3 (out3 ++ ([(⟨t30, j⟩ : Int × Int)] : List (Int × Int)))) ∧
    ((r4) = false →
      F_deorder_J1 j I2 μ2 out3 out3)) ∧
  ((decide (j < ((plan.length : Nat) : Int))) = false →
    I1 (IntKind.i64.wrap (t30 + 1)) out3 ∧
  μ1 (IntKind.i64.wrap (t30 + 1)) out3 < μ1 t30 out)

def F_deorder_L1 (t : Task) (plan : List Int) (K : ((List (Int × Int)) × Fault) → Prop) (out : List (Int × Int)) (t30 : Int) (I1 : Int → (List (Int × Int)) → Prop) (μ1 : Int → (List (Int × Int)) → Nat) : Prop :=
  ((decide (t30 < ((plan.length : Nat) : Int))) = true →
    ∃ (I2 : Int → (List (Int × Int)) → Prop) (μ2 : Int → (List (Int × Int)) → Nat), I2 (IntKind.i64.wrap (t30 + 1)) out ∧ ∀ (j : Int) (out3 : List (Int × Int)), I2 j out3 → F_deorder_L2 t plan out j I2 μ2 out3 t30 I1 μ1) ∧
  ((decide (t30 < ((plan.length : Nat) : Int))) = false →
    K (out, (⟨0, 0⟩ : Fault)))

def F_deorder (t : Task) (plan : List Int) (K : ((List (Int × Int)) × Fault) → Prop) : Prop :=
  ∀ r2 : Fault, r2 = (sp_planFault t plan) →
  ((!((r2.code == 0) && (r2.index == 0))) = true →
    K (([] : List (Int × Int)), r2)) ∧
  ((!((r2.code == 0) && (r2.index == 0))) = false →
    ((decide (7 < ((plan.length : Nat) : Int))) = true →
      K (([] : List (Int × Int)), (⟨2, (-5)⟩ : Fault))) ∧
    ((decide (7 < ((plan.length : Nat) : Int))) = false →
      (pre_works t t.init plan) ∧
      ∀ r3 : Bool, r3 = (sp_rworks t t.init plan) →
      ((!r3) = true →
        K (([] : List (Int × Int)), (⟨11, (-8)⟩ : Fault))) ∧
      ((!r3) = false →
        ∃ (I1 : Int → (List (Int × Int)) → Prop) (μ1 : Int → (List (Int × Int)) → Nat), I1 0 ([] : List (Int × Int)) ∧ ∀ (t30 : Int) (out : List (Int × Int)), I1 t30 out → F_deorder_L1 t plan K out t30 I1 μ1)))

def F_interfering (t : Task) (a : Int) (b : Int) (K : Bool → Prop) : Prop :=
  (inb t.ops a) ∧
  (inb t.ops b) ∧
  (pre_disjoint ((gt t.ops a).add) ((gt t.ops b).pre)) ∧
  ∀ r2 : Bool, r2 = (sp_disjoint ((gt t.ops a).add) ((gt t.ops b).pre)) →
  ((!r2) = true →
    K true) ∧
  ((!r2) = false →
    (pre_disjoint ((gt t.ops a).del) ((gt t.ops b).pre)) ∧
    ∀ r3 : Bool, r3 = (sp_disjoint ((gt t.ops a).del) ((gt t.ops b).pre)) →
    ((!r3) = true →
      K true) ∧
    ((!r3) = false →
      (pre_disjoint ((gt t.ops b).add) ((gt t.ops a).pre)) ∧
      ∀ r4 : Bool, r4 = (sp_disjoint ((gt t.ops b).add) ((gt t.ops a).pre)) →
      ((!r4) = true →
        K true) ∧
      ((!r4) = false →
        (pre_disjoint ((gt t.ops b).del) ((gt t.ops a).pre)) ∧
        ∀ r5 : Bool, r5 = (sp_disjoint ((gt t.ops b).del) ((gt t.ops a).pre)) →
        ((!r5) = true →
          K true) ∧
        ((!r5) = false →
          (pre_disjoint ((gt t.ops a).add) ((gt t.ops b).del)) ∧
          ∀ r6 : Bool, r6 = (sp_disjoint ((gt t.ops a).add) ((gt t.ops b).del)) →
          ((!r6) = true →
            K true) ∧
          ((!r6) = false →
            (pre_disjoint ((gt t.ops a).del) ((gt t.ops b).add)) ∧
            ∀ r7 : Bool, r7 = (sp_disjoint ((gt t.ops a).del) ((gt t.ops b).add)) →
            K (!r7))))))

def F_pairsOf_J1 (j : Int) (I2 : Int → (List (Int × Int)) → Prop) (μ2 : Int → (List (Int × Int)) → Nat) (out3 : List (Int × Int)) (out5 : List (Int × Int)) : Prop :=
  I2 (IntKind.i64.wrap (j + 1)) out5 ∧
  μ2 (IntKind.i64.wrap (j + 1)) out5 < μ2 j out3

def F_pairsOf_L2 (t : Task) (plan : List Int) (out : List (Int × Int)) (j : Int) (I2 : Int → (List (Int × Int)) → Prop) (μ2 : Int → (List (Int × Int)) → Nat) (out3 : List (Int × Int)) (i : Int) (I1 : Int → (List (Int × Int)) → Prop) (μ1 : Int → (List (Int × Int)) → Nat) : Prop :=
  ((decide (j < ((plan.length : Nat) : Int))) = true →
    (inb plan i) ∧
    (inb plan j) ∧
    (pre_interfere t (gt plan i) (gt plan j)) ∧
    ∀ r2 : Bool, r2 = (sp_interfere t (gt plan i) (gt plan j)) →
    ((r2) = true →
      (room ((out3 ++ ([(⟨i, j⟩ : Int × Int)] : List (Int × Int)))).length 16) ∧
      F_pairsOf_J1 j I2 μ2 out3 (out3 ++ ([(⟨i, j⟩ : Int × Int)] : List (Int × Int)))) ∧
    ((r2) = false →
      F_pairsOf_J1 j I2 μ2 out3 out3)) ∧
  ((decide (j < ((plan.length : Nat) : Int))) = false →
    I1 (IntKind.i64.wrap (i + 1)) out3 ∧
  μ1 (IntKind.i64.wrap (i + 1)) out3 < μ1 i out)

def F_pairsOf_L1 (t : Task) (plan : List Int) (K : (List (Int × Int)) → Prop) (out : List (Int × Int)) (i : Int) (I1 : Int → (List (Int × Int)) → Prop) (μ1 : Int → (List (Int × Int)) → Nat) : Prop :=
  ((decide (i < ((plan.length : Nat) : Int))) = true →
    ∃ (I2 : Int → (List (Int × Int)) → Prop) (μ2 : Int → (List (Int × Int)) → Nat), I2 (IntKind.i64.wrap (i + 1)) out ∧ ∀ (j : Int) (out3 : List (Int × Int)), I2 j out3 → F_pairsOf_L2 t plan out j I2 μ2 out3 i I1 μ1) ∧
  ((decide (i < ((plan.length : Nat) : Int))) = false →
    K out)

def F_pairsOf (t : Task) (plan : List Int) (K : (List (Int × Int)) → Prop) : Prop :=
  ∃ (I1 : Int → (List (Int × Int)) → Prop) (μ1 : Int → (List (Int × Int)) → Nat), I1 0 ([] : List (Int × Int)) ∧ ∀ (i : Int) (out : List (Int × Int)), I1 i out → F_pairsOf_L1 t plan K out i I1 μ1

def F_twoInts_L1 (a : List (Int × Int)) (b : List (Int × Int)) (K : Bool → Prop) (i : Int) (I1 : Int → Prop) (μ1 : Int → Nat) : Prop :=
  ((decide (i < ((a.length : Nat) : Int))) = true →
    (inb a i) ∧
    (inb b i) ∧
    ∀ x : Bool, x = (!((((gt a i).1) == ((gt b i).1)) && (((gt a i).2) == ((gt b i).2)))) →
    ((x) = true →
      K false) ∧
    ((x) = false →
      I1 (IntKind.i64.wrap (i + 1)) ∧
  μ1 (IntKind.i64.wrap (i + 1)) < μ1 i)) ∧
  ((decide (i < ((a.length : Nat) : Int))) = false →
    K true)

def F_twoInts (a : List (Int × Int)) (b : List (Int × Int)) (K : Bool → Prop) : Prop :=
  ((((a.length : Nat) : Int) != ((b.length : Nat) : Int)) = true →
    K false) ∧
  ((((a.length : Nat) : Int) != ((b.length : Nat) : Int)) = false →
    ∃ (I1 : Int → Prop) (μ1 : Int → Nat), I1 0 ∧ ∀ (i : Int), I1 i → F_twoInts_L1 a b K i I1 μ1)

def F_lawFirst_L1 (t : Task) (steps : List Int) (K : Bool → Prop) (r3 : List Int × Fault) (i : Int) (plan : List Int) (I1 : Int → (List Int) → Prop) (μ1 : Int → (List Int) → Nat) : Prop :=
  ((decide (i < ((r3.1.length : Nat) : Int))) = true →
    (inb r3.1 i) ∧
    (inb steps (gt r3.1 i)) ∧
    (room ((plan ++ ([(gt steps (gt r3.1 i))] : List Int))).length 8) ∧
    I1 (IntKind.i64.wrap (i + 1)) (plan ++ ([(gt steps (gt r3.1 i))] : List Int)) ∧
  μ1 (IntKind.i64.wrap (i + 1)) (plan ++ ([(gt steps (gt r3.1 i))] : List Int)) < μ1 i plan) ∧
  ((decide (i < ((r3.1.length : Nat) : Int))) = false →
    ∀ r5 : Bool × Fault, r5 = (sp_solves t plan) →
    ((r5.2.code == 0) = true →
      ((r5.1) = true →
        ((((plan.length : Nat) : Int) == ((steps.length : Nat) : Int)) = true →
          ∀ r6 : Bool, r6 = sp_counted →
          K r6) ∧
        ((((plan.length : Nat) : Int) == ((steps.length : Nat) : Int)) = false →
          K false)) ∧
      ((r5.1) = false →
        K false)) ∧
    ((r5.2.code == 0) = false →
      K false))

def F_lawFirst_J1 (t : Task) (steps : List Int) (K : Bool → Prop) (r3 : List Int × Fault) (t40 : Bool) : Prop :=
  ((t40) = true →
    ∀ r4 : Bool, r4 = sp_counted →
    K r4) ∧
  ((t40) = false →
    ∃ (I1 : Int → (List Int) → Prop) (μ1 : Int → (List Int) → Nat), I1 0 ([] : List Int) ∧ ∀ (i : Int) (plan : List Int), I1 i plan → F_lawFirst_L1 t steps K r3 i plan I1 μ1)

def F_lawFirst (t : Task) (steps : List Int) (before : List (Int × Int)) (K : Bool → Prop) : Prop :=
  ∀ r2 : Bool × Fault, r2 = (sp_pcheck t steps before) →
  ∀ r3 : List Int × Fault, r3 = (sp_first ((steps.length : Nat) : Int) before) →
  ((r2.2.code != 0) = true →
    F_lawFirst_J1 t steps K r3 true) ∧
  ((r2.2.code != 0) = false →
    ((r3.2.code != 0) = true →
      F_lawFirst_J1 t steps K r3 true) ∧
    ((r3.2.code != 0) = false →
      F_lawFirst_J1 t steps K r3 (!r2.1)))

def F_lawDeorder_J4 (t : Task) (plan : List Int) (K : Bool → Prop) (r2 : (List (Int × Int)) × Fault) (x3 : Int) (x4 : Int) : Prop :=
  ((x3 != 0) = true →
    (((r2.2.code == x3) && (r2.2.index == x4)) = true →
      ((((r2.1.length : Nat) : Int) == 0) = true →
        ∀ r4 : Bool, r4 = sp_counted →
        K r4) ∧
      ((((r2.1.length : Nat) : Int) == 0) = false →
        K false)) ∧
    (((r2.2.code == x3) && (r2.2.index == x4)) = false →
      K false)) ∧
  ((x3 != 0) = false →
    ((r2.2.code == 0) = true →
      (pre_pairsOf t plan) ∧
      ∀ r5 : (List (Int × Int)), r5 = (sp_pairsOf t plan) →
      (pre_twoInts r2.1 r5) ∧
      ∀ r6 : Bool, r6 = (sp_twoInts r2.1 r5) →
      ((r6) = true →
        ∀ r7 : Bool, r7 = sp_counted →
        K r7) ∧
      ((r6) = false →
        K false)) ∧
    ((r2.2.code == 0) = false →
      K false))

def F_lawDeorder_J3 (t : Task) (plan : List Int) (K : Bool → Prop) (r2 : (List (Int × Int)) × Fault) (x : Int) (x2 : Int) (t34 : Bool) : Prop :=
  ((t34) = true →
    ∀ r8 : Fault, r8 = (sp_at_ 11 (-8)) →
    F_lawDeorder_J4 t plan K r2 r8.code r8.index) ∧
  ((t34) = false →
    F_lawDeorder_J4 t plan K r2 x x2)

def F_lawDeorder_J2 (t : Task) (plan : List Int) (K : Bool → Prop) (r2 : (List (Int × Int)) × Fault) (x : Int) (x2 : Int) : Prop :=
  ((x == 0) = true →
    (pre_rsolves t plan) ∧
    ∀ r9 : Bool, r9 = (sp_rsolves t plan) →
    F_lawDeorder_J3 t plan K r2 x x2 (!r9)) ∧
  ((x == 0) = false →
    F_lawDeorder_J3 t plan K r2 x x2 false)

def F_lawDeorder_J1 (t : Task) (plan : List Int) (K : Bool → Prop) (r2 : (List (Int × Int)) × Fault) (r3 : Fault) (t24 : Bool) : Prop :=
  ((t24) = true →
    ∀ r10 : Fault, r10 = (sp_at_ 2 (-5)) →
    F_lawDeorder_J2 t plan K r2 r10.code r10.index) ∧
  ((t24) = false →
    F_lawDeorder_J2 t plan K r2 r3.code r3.index)

def F_lawDeorder (t : Task) (plan : List Int) (K : Bool → Prop) : Prop :=
  ∀ r2 : (List (Int × Int)) × Fault, r2 = (sp_deorder t plan) →
  ∀ r3 : Fault, r3 = (sp_planFault t plan) →
  ((r3.code == 0) = true →
    F_lawDeorder_J1 t plan K r2 r3 (decide (7 < ((plan.length : Nat) : Int)))) ∧
  ((r3.code == 0) = false →
    F_lawDeorder_J1 t plan K r2 r3 false)

def F_lawDeorderW_J1 (t : Task) (plan : List Int) (K : Bool → Prop) (r2 : (List (Int × Int)) × Fault) (t22 : Bool) : Prop :=
  ((t22) = true →
    ∀ r3 : Bool, r3 = sp_counted →
    K r3) ∧
  ((t22) = false →
    ∀ r4 : Bool × Fault, r4 = (sp_pcheck t plan r2.1) →
    ((r4.2.code == 0) = true →
      ((r4.1) = true →
        ∀ r5 : Bool, r5 = sp_counted →
        K r5) ∧
      ((r4.1) = false →
        K false)) ∧
    ((r4.2.code == 0) = false →
      K false))

def F_lawDeorderW (t : Task) (plan : List Int) (K : Bool → Prop) : Prop :=
  ∀ r2 : (List (Int × Int)) × Fault, r2 = (sp_deorder t plan) →
  ((r2.2.code != 0) = true →
    F_lawDeorderW_J1 t plan K r2 true) ∧
  ((r2.2.code != 0) = false →
    F_lawDeorderW_J1 t plan K r2 (decide (30 < ((r2.1.length : Nat) : Int))))
end Go.Proofs.Ytihbfbofbdkmbaa.Pl
