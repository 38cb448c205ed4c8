/- Plain data of the program, and what its functions give. No condition. -/
import Derived.Test.YtojoehfldbimpaaGreatDoorPl11
import Derived.Test.YtojoehfldbimpaaGreatDoorSpB
import Derived.Test.YtojoehfldbimpaaGreatDoorBs
namespace Go.Proofs.YtojoehfldbimpaaGreatDoor.Pl
open Go Go.RowKit
/-- the string that stands for a list of sets -/
def rowL (s : List Int) : List UInt8 := s.flatMap fun x => Lib.itoa x ++ [44]
def keyL (l : List (List Int)) : List UInt8 := l.flatMap fun s => rowL s ++ [59]
def sp_key (l : List (List Int)) : List UInt8 := keyL l
def pre_key (l : List (List Int)) : Prop := l.length ≤ 1000 ∧ ∀ s ∈ l, s.length ≤ 1000 ∧ ∀ x ∈ s, -9223372036854775808 ≤ x ∧ x ≤ 9223372036854775807
def sp_reverse (s : List Int) : List Int := s.reverse
def pre_reverse (s : List Int) : Prop := s.length ≤ 100000
theorem sp_reverse_len (s : List Int) : (sp_reverse s).length = s.length := List.length_reverse
def sp_compare (x y : Int) : Int := if x < y then -1 else if y < x then 1 else 0
/-- lists of numbers, compared number by number -/
def sp_scompare : List Int → List Int → Int
  | [], [] => 0
  | [], _ :: _ => -1
  | _ :: _, [] => 1
  | x :: r, y :: q => if x < y then -1 else if y < x then 1 else sp_scompare r q
def pre_scompare (a b : List Int) : Prop := a.length ≤ 1000 ∧ b.length ≤ 1000
def sp_sequal (a b : List Int) : Bool := decide (a = b)
def pre_sequal (a b : List Int) : Prop := a.length ≤ 1000 ∧ b.length ≤ 1000
def sp_unknownFault (t : Task) (unknown : List Int) : Fault :=
  if sp_validate t = ⟨0, 0⟩ then if 4 < unknown.length then ⟨2, -8⟩ else if sp_isSet unknown t.facts = true then ⟨0, 0⟩ else ⟨5, -8⟩ else sp_validate t
def sp_sure1 (s x : List Int) : Bool := !sp_contains2 s x
def pre_sure1 (s x : List Int) : Prop := pre_contains2 s x
def sp_sure (worlds : List (List Int)) (facts : List Int) : Bool := !(worlds.any fun s => sp_sure1 s facts)
def pre_sure (worlds : List (List Int)) (facts : List Int) : Prop := worlds.length ≤ 1000 ∧ ∀ s ∈ worlds, pre_sure1 s facts
def sp_changed (n : Int) (s add del : List Int) : List Int := (allS n.toNat).filter fun p => decide (p ∈ add ∨ (p ∈ s ∧ p ∉ del))
def pre_changed (n : Int) (s add del : List Int) : Prop := 0 ≤ n ∧ n ≤ 1000 ∧ s.length ≤ 1000 ∧ add.length ≤ 1000 ∧ del.length ≤ 1000
/-! ### lists of states -/
abbrev Bel := List (List Int)
/-- the order of lists of numbers -/
def sp_before : List Int → List Int → Bool
  | [], [] => false
  | [], _ :: _ => true
  | _ :: _, [] => false
  | x :: r, y :: q => if x = y then sp_before r q else decide (x < y)
def pre_before (a b : List Int) : Prop := a.length ≤ 1000 ∧ b.length ≤ 1000
def sp_ints (a b : List Int) : Bool := decide (a = b)
def pre_ints (a b : List Int) : Prop := a.length ≤ 1000 ∧ b.length ≤ 1000
/-- a state is put in its place, unless it is there -/
def sp_insert : Bel → List Int → Bel
  | [], s => [s]
  | x :: r, s => if sp_before x s = true then x :: sp_insert r s else if x = s then x :: r else s :: x :: r
def pre_insert (l : Bel) (s : List Int) : Prop := l.length ≤ 1000 ∧ s.length ≤ 1000 ∧ ∀ x ∈ l, x.length ≤ 1000
/-- states in order, each once -/
def sp_normal (l : Bel) : Bel := l.foldl sp_insert []
def pre_normal (l : Bel) : Prop := l.length ≤ 1000 ∧ ∀ x ∈ l, x.length ≤ 1000
def sp_sortR (l : Bel) : Bel := l.mergeSort fun x y => !sp_before y x
def pre_sortR (l : Bel) : Prop := l.length ≤ 1000 ∧ ∀ x ∈ l, x.length ≤ 1000
/-- of neighbours that are the same the first one -/
def sp_compactR (l : Bel) : Bel := l.foldl (fun acc x => if acc.getLast? = some x then acc else acc ++ [x]) []
def pre_compactR (l : Bel) : Prop := l.length ≤ 1000 ∧ ∀ x ∈ l, x.length ≤ 1000
/-- the numbers at the bits of a mask -/
def maskAdd (u : List Int) (m : Nat) : List Int := (u.zipIdx.filter fun p => m.testBit p.2).map (·.1)
def sp_worlds (t : Task) (u : List Int) : Bel := sp_normal ((List.range (2 ^ u.length)).map fun m => sp_update t.init (maskAdd u m) u)
def UOK (t : Task) (u : List Int) : Prop := sp_validate t = ⟨0, 0⟩ ∧ u.length ≤ 4 ∧ sp_isSet u t.facts = true
def pre_worlds (t : Task) (u : List Int) : Prop := UOK t u
def sp_initial (t : Task) (u : List Int) : Bel × Fault := if sp_unknownFault t u = ⟨0, 0⟩ then (sp_worlds t u, ⟨0, 0⟩) else ([], sp_unknownFault t u)
/-- states of a task, not many -/
def WsOK (t : Task) (ws : Bel) : Prop := ws.length ≤ 16 ∧ ∀ s ∈ ws, sp_isSet s t.facts = true
def sp_bafter (t : Task) (ws : Bel) (op : Int) : Bel := sp_normal (ws.map fun s => sp_after t s op)
def pre_bafter (t : Task) (ws : Bel) (op : Int) : Prop := sp_validate t = ⟨0, 0⟩ ∧ inb t.ops op ∧ WsOK t ws
def sp_bsolves1 (s : List Int) (t : Task) (plan : List Int) : Bool := !sp_rworks t s plan
def pre_bsolves1 (s : List Int) (t : Task) (plan : List Int) : Prop := pre_srun t s plan
def sp_bsolves (t : Task) (u plan : List Int) : Bool × Fault :=
  if sp_unknownFault t u = ⟨0, 0⟩ then
    if sp_steps t.ops.length plan = ⟨0, 0⟩ then (!((sp_worlds t u).any fun s => sp_bsolves1 s t plan), ⟨0, 0⟩) else (false, sp_steps t.ops.length plan)
  else (false, sp_unknownFault t u)
/-- one unknown fact is switched in one state -/
def flip2 (n : Int) (x : Int) (next : Bel) (s : List Int) : Bel := sp_insert (sp_insert next (sp_changed n s [x] [])) (sp_changed n s [] [x])
def sp_possible (t : Task) (u : List Int) : Bel := u.foldl (fun out x => out.foldl (flip2 t.facts x) []) [t.init]
def pre_possible (t : Task) (u : List Int) : Prop := UOK t u
def sp_allHold (ws : Bel) (facts : List Int) : Bool := ws.all fun s => sp_subset facts s
def pre_same (a b : Bel) : Prop := a.length ≤ 1000 ∧ b.length ≤ 1000 ∧ (∀ s ∈ a, s.length ≤ 1000) ∧ ∀ s ∈ b, s.length ≤ 1000
def sp_sets (a b : Bel) : Bool := decide (a = b)
def pre_sets (a b : Bel) : Prop := pre_same a b
def sp_placeOf (all : List Bel) (l : Bel) : Int := if l ∈ all then all.idxOf l else -1
/-! ### searches -/
/-- the operators that are applicable in all states, and the states after them -/
def bsucc (t : Task) (ws : Bel) : List (Int × Bel) := (allS t.ops.length).filterMap fun op => if sp_sure ws (gt t.ops op).pre = true then some (op, sp_bafter t ws op) else none
def sp_succ (_ : Task) (_ : Bel) : Unit := ()
def sp_bnext (_ : Task) : Unit := ()
def sp_bnext1 (_ : Bel) (_ : Task) : Unit := ()
def sp_small1 (_ : Bel) : Bool := false
def sp_plan1 (w : Bel) (t : Task) : Bool := sp_sure w t.goal
def pre_plan1 (w : Bel) (t : Task) : Prop := sp_validate t = ⟨0, 0⟩ ∧ WsOK t w
def sp_breadthS (start : Bel) (t : Task) : List Int × Bool × Bool := search (bsucc t) (fun _ => false) start
def pre_breadthS (start : Bel) (t : Task) : Prop := sp_validate t = ⟨0, 0⟩ ∧ WsOK t start
def sp_breadthP (start : Bel) (t t' : Task) : List Int × Bool × Bool := search (bsucc t) (fun w => sp_sure w t'.goal) start
def pre_breadthP (start : Bel) (t t' : Task) : Prop := sp_validate t = ⟨0, 0⟩ ∧ WsOK t start ∧ t' = t
def sp_small (start : Bel) (t : Task) : Bool := (search (bsucc t) (fun _ => false) start).2.2
def pre_small (start : Bel) (t : Task) : Prop := pre_breadthS start t
def sp_bplan (t : Task) (u : List Int) : List Int × Bool × Fault :=
  if sp_unknownFault t u = ⟨0, 0⟩ then
    if sp_small (sp_worlds t u) t = true then
      if 60 < (sp_breadthP (sp_worlds t u) t t).1.length then ([], false, ⟨10, -5⟩) else ((sp_breadthP (sp_worlds t u) t t).1, (sp_breadthP (sp_worlds t u) t t).2.1, ⟨0, 0⟩)
    else ([], false, ⟨10, -7⟩)
  else ([], false, sp_unknownFault t u)
/-- the task in which an operator adds fact 0 -/
def sp_able : Task := ⟨1, [], [0], [⟨[], [0], [], 1⟩]⟩
def sp_settled : Bool := true
/-- lists of states that are closed under operators -/
structure Closed (t : Task) (all : List Bel) : Prop where
  val : sp_validate t = ⟨0, 0⟩
  len : all.length ≤ 1000
  pos : 0 < all.length
  ok : ∀ b ∈ all, WsOK t b
  nodup : all.Nodup
  step : ∀ b ∈ all, ∀ x ∈ bsucc t b, x.2 ∈ all
def sp_lawBeliefSolves (_ : Task) (_ _ : List Int) : Bool := true
end Go.Proofs.YtojoehfldbimpaaGreatDoor.Pl

