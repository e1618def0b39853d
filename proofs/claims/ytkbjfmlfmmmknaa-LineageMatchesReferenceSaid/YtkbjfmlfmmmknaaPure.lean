/- What edits do to the sets of what became of Ids, in plain Lean: no program, no memory. -/
namespace Go.Proofs.Ytkbjfmlfmmmknaa

abbrev Key := List UInt8
/-- For each Id that is mentioned: what became of it. -/
abbrev St := Key → Option (Key → Bool)

/-- What became of an Id. -/
def ofS (st : St) (k : Key) : Key → Bool := match st k with | some S => S | none => fun j => j == k

structure Ed where
  op : Int
  id : Key
  other : Key
  obj : Key

def Ed.two (e : Ed) : Bool := e.op == 6 || e.op == 7
def Ed.fresh (e : Ed) : Key := if e.op = 1 then e.obj else e.other
def Ed.main (e : Ed) : Key := if e.op = 1 then e.obj else e.id

/-- The error number of an edit: 1 (arg), 11 (none), 9 (twice), 0 (none at all). -/
def err (st : St) (e : Ed) : Int :=
  if (e.op < 1 ∨ 7 < e.op) ∨ (e.two = true ∧ e.id = e.other) then 1
  else if (e.op ≠ 1 ∧ ofS st e.id e.id = false) ∨ (e.op = 7 ∧ ofS st e.other e.other = false) then 11
  else if (st e.fresh).isSome = true ∧ (e.op = 1 ∨ e.op = 6) then 9
  else 0

def mentionS (st : St) (k : Key) : St := fun j => if j = k then some (ofS st k) else st j

/-- What an edit does to one set. -/
def upd (e : Ed) (S : Key → Bool) : Key → Bool :=
  if e.op = 5 then fun j => S j && !(j == e.id)
  else if e.op = 6 ∧ S e.id = true then fun j => S j || j == e.other
  else if e.op = 7 ∧ S e.other = true then fun j => (S j && !(j == e.other)) || j == e.id
  else S

def ment (st : St) (e : Ed) : St := if e.two = true then mentionS (mentionS st e.main) e.other else mentionS st e.main

def step (st : St) (e : Ed) : St := if err st e = 0 then fun j => (ment st e j).map (upd e) else st

end Go.Proofs.Ytkbjfmlfmmmknaa
