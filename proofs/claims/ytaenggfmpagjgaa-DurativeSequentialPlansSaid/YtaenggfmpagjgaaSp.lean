/- What the functions give, and what they ask: operators that take time. Plain data, plain Lean. No condition. -/
import Derived.Test.YtaenggfmpagjgaaSpB
namespace Go.Proofs.Ytaenggfmpagjgaa.Pl
open Go Go.RowKit
def sp_compare (x y : Int) : Int := if x < y then -1 else if y < x then 1 else 0
def sp_cmpOr (l : List Int) : Int := (l.find? (fun x => decide (x ≠ 0))).getD 0
def pre_cmpOr (l : List Int) : Prop := l.length ≤ 1000
def sp_rank (h : Hap) : Int := if h.ending = true then 0 else 1
def sp_hcmp (a b : Hap) : Int := sp_cmpOr [sp_compare a.time b.time, sp_compare (sp_rank a) (sp_rank b), sp_compare a.index b.index]
def hle (x y : Hap) : Bool := !decide (sp_hcmp y x < 0)
def sp_sortHap (l : List Hap) : List Hap := l.mergeSort hle
def pre_sortHap (l : List Hap) : Prop := l.length ≤ 1000
/-- an operator's lists are sets, and no effect is contradictory -/
structure SetsOK (o : TOp) (n : Int) : Prop where
  atStart : sp_isSet o.atStart n = true
  over : sp_isSet o.over n = true
  atEnd : sp_isSet o.atEnd n = true
  addStart : sp_isSet o.addStart n = true
  delStart : sp_isSet o.delStart n = true
  addEnd : sp_isSet o.addEnd n = true
  delEnd : sp_isSet o.delEnd n = true
  start : sp_meets o.addStart o.delStart = false
  ends : sp_meets o.addEnd o.delEnd = false
open Classical in
noncomputable def sp_tcode (o : TOp) (n : Int) : Int := if SetsOK o n then if 1 ≤ o.dur ∧ o.dur ≤ 1000 then 0 else 3 else 5
def pre_tcode (_ : TOp) (n : Int) : Prop := 0 ≤ n ∧ n ≤ 1000
noncomputable def topFault (t : TTask) (i : Nat) : Fault := if sp_tcode (gt t.ops i) t.facts = 0 then ⟨0, 0⟩ else ⟨sp_tcode (gt t.ops i) t.facts, i⟩
noncomputable def sp_tvalidate (t : TTask) : Fault :=
  if t.facts < 0 ∨ 23 < t.facts then ⟨3, -1⟩
  else if sp_isSet t.init t.facts = false then ⟨5, -2⟩
  else if sp_isSet t.goal t.facts = false then ⟨5, -3⟩
  else if 40 < t.ops.length then ⟨2, -1⟩
  else ffirst (topFault t) t.ops.length
def occFault (t : TTask) (l : List Occ) (i : Nat) : Fault :=
  if 0 ≤ (gt l i).op ∧ (gt l i).op < t.ops.length ∧ 0 ≤ (gt l i).start ∧ (gt l i).start ≤ 1000000 then ⟨0, 0⟩ else ⟨3, -6 - i⟩
noncomputable def sp_scheduleFault (t : TTask) (l : List Occ) : Fault :=
  if sp_tvalidate t = ⟨0, 0⟩ then if 12 < l.length then ⟨2, -5⟩ else ffirst (occFault t l) l.length else sp_tvalidate t
def opOf (t : TTask) (l : List Occ) (i : Int) : TOp := gt t.ops (gt l i).op
/-- the start and the end of an occurrence -/
def hap2 (t : TTask) (l : List Occ) (i : Nat) : List Hap := [⟨(gt l i).start, i, false⟩, ⟨(gt l i).start + (opOf t l i).dur, i, true⟩]
def haps (t : TTask) (l : List Occ) (n : Nat) : List Hap := (List.range n).flatMap (hap2 t l)
def sp_happenings (t : TTask) (l : List Occ) : List Hap := sp_sortHap (haps t l l.length)
def pre_happenings (t : TTask) (l : List Occ) : Prop := sp_scheduleFault t l = ⟨0, 0⟩
def sp_changed (n : Int) (s add del : List Int) : List Int := (allS n.toNat).filter fun p => decide (p ∈ add ∨ (p ∈ s ∧ p ∉ del))
def pre_changed (n : Int) (s add del : List Int) : Prop := 0 ≤ n ∧ n ≤ 1000 ∧ s.length ≤ 1000 ∧ add.length ≤ 1000 ∧ del.length ≤ 1000
def hpre (t : TTask) (l : List Occ) (h : Hap) : List Int := if h.ending = true then (opOf t l h.index).atEnd else (opOf t l h.index).atStart
def hadd (t : TTask) (l : List Occ) (h : Hap) : List Int := if h.ending = true then (opOf t l h.index).addEnd else (opOf t l h.index).addStart
def hdel (t : TTask) (l : List Occ) (h : Hap) : List Int := if h.ending = true then (opOf t l h.index).delEnd else (opOf t l h.index).delStart
def hnext (t : TTask) (l : List Occ) (s : List Int) (h : Hap) : List Int := sp_changed t.facts s (hadd t l h) (hdel t l h)
def overAt (t : TTask) (l : List Occ) (run : List Bool) (s : List Int) (i : Nat) : Bool := !(gt run i) || sp_subset (opOf t l i).over s
def overOK (t : TTask) (l : List Occ) (run : List Bool) (s : List Int) : Bool := (List.range l.length).all (overAt t l run s)
/-- what happens, one after the other -/
def runH (t : TTask) (l : List Occ) : List Hap → List Int → List Bool → Int → Int × Bool
  | [], s, _, last => if sp_subset t.goal s = true then (last, true) else (0, false)
  | h :: r, s, run, _ =>
    if sp_subset (hpre t l h) s = true then
      if overOK t l (run.set h.index.toNat (!h.ending)) (hnext t l s h) = true then runH t l r (hnext t l s h) (run.set h.index.toNat (!h.ending)) h.time
      else (0, false)
    else (0, false)
def sp_timedR (t : TTask) (l : List Occ) : Int × Bool := runH t l (sp_happenings t l) t.init (List.replicate l.length false) 0
def pre_timedR (t : TTask) (l : List Occ) : Prop := sp_scheduleFault t l = ⟨0, 0⟩
noncomputable def sp_tcheck (t : TTask) (l : List Occ) : Int × Bool × Fault :=
  if sp_scheduleFault t l = ⟨0, 0⟩ then ((sp_timedR t l).1, (sp_timedR t l).2, ⟨0, 0⟩) else (0, false, sp_scheduleFault t l)
def sp_minus (a b : List Int) : List Int := sp_update a [] b
def pre_minus (a b : List Int) : Prop := pre_update a [] b
def sp_union (a b : List Int) : List Int := sp_update a b []
def pre_union (a b : List Int) : Prop := pre_update a b []
/-- an operator as a single step -/
def seqPre (t : TTask) (o : TOp) : List Int :=
  sp_union o.atStart (sp_minus (sp_union o.over o.atEnd) o.addStart) ++ (if sp_meets (sp_union o.over o.atEnd) o.delStart = true then [t.facts] else [])
def seqOp (t : TTask) (o : TOp) : Operator :=
  ⟨seqPre t o, sp_update o.addStart o.addEnd o.delEnd, sp_minus (sp_union o.delStart o.delEnd) (sp_update o.addStart o.addEnd o.delEnd), 0⟩
def sp_sequenced (t : TTask) : Task := ⟨t.facts + 1, t.init, t.goal, t.ops.map (seqOp t)⟩
def pre_sequenced (t : TTask) : Prop := sp_tvalidate t = ⟨0, 0⟩
noncomputable def sp_sequence (t : TTask) : Task × Fault := if sp_tvalidate t = ⟨0, 0⟩ then (sp_sequenced t, ⟨0, 0⟩) else (⟨0, [], [], []⟩, sp_tvalidate t)
/-- when step k begins -/
def durSum (t : TTask) (plan : List Int) : Nat → Int
  | 0 => 0
  | k + 1 => durSum t plan k + (gt t.ops (gt plan (k : Int))).dur
def lineN (t : TTask) (plan : List Int) (n : Nat) : List Occ := (List.range n).map fun i : Nat => ⟨gt plan (i : Int), durSum t plan i⟩
def planRng (t : TTask) (plan : List Int) (i : Nat) : Fault := if 0 ≤ gt plan (i : Int) ∧ gt plan (i : Int) < t.ops.length then ⟨0, 0⟩ else ⟨3, -6 - i⟩
noncomputable def sp_lineFault (t : TTask) (plan : List Int) : Fault :=
  if sp_tvalidate t = ⟨0, 0⟩ then if 12 < plan.length then ⟨2, -5⟩ else ffirst (planRng t plan) plan.length else sp_tvalidate t
noncomputable def sp_line (t : TTask) (plan : List Int) : List Occ × Fault :=
  if sp_lineFault t plan = ⟨0, 0⟩ then (lineN t plan plan.length, ⟨0, 0⟩) else ([], sp_lineFault t plan)
def sp_occurs (a b : List Occ) : Bool := decide (a = b)
def pre_occurs (a _ : List Occ) : Prop := a.length ≤ 1000
def sp_planning (a b : Task) : Bool := decide (a = b)
def pre_planning (a _ : Task) : Prop := a.init.length ≤ 1000 ∧ a.goal.length ≤ 1000 ∧ a.ops.length ≤ 1000 ∧ ∀ o ∈ a.ops, o.pre.length ≤ 1000 ∧ o.add.length ≤ 1000 ∧ o.del.length ≤ 1000
def sp_timedT : TTask := ⟨1, [], [0], [⟨[], [], [], [], [], [0], [], 3⟩]⟩
def sp_lasted : Bool := true
def sp_lawTimed (_ : TTask) (_ : List Occ) : Bool := true
def sp_lawDelayed (_ : TTask) (_ : List Occ) (_ : Int) : Bool := true
def pre_lawDelayed (_ : TTask) (l : List Occ) (_ : Int) : Prop := l.length * 16 ≤ 140737488351232
def sp_lawEndsLast (_ : TTask) (_ : List Occ) : Bool := true
def sp_lawLine (_ : TTask) (_ : List Int) : Bool := true
def sp_lawSequence (_ : TTask) : Bool := true
def sp_lawSequential (_ : TTask) (_ : List Int) : Bool := true
end Go.Proofs.Ytaenggfmpagjgaa.Pl
