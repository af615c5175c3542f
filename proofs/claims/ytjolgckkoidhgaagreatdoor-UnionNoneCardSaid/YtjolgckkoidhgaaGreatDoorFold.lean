/-
  Plain facts on layers: what union.Apply and union.Fold compute, as functions on lists of nodes. No program in sight.
-/
import Derived.Test.YtjolgckkoidhgaaGreatDoorTrees
namespace Go.Proofs.YtjolgckkoidhgaaGreatDoor.Pa

/-- A node of a tree. -/
structure Nd where
  path : Str
  kind : Int
  mode : Int
  link : Str
  data : Str

/-- A change of a layer. -/
structure Ch where
  kind : Int
  path : Str
  name : Str
  nkind : Int
  mode : Int
  link : Str
  data : Str

/-- Is a node one, by itself? -/
def rightN (n : Nd) : Bool :=
  match splitP n.path with
  | none => false
  | some l => !l.isEmpty && decide (0 ≤ n.mode) && decide (n.mode ≤ 4095) &&
    (if n.kind = 1 then n.link.isEmpty && decide (n.data.length ≤ 70656)
     else if n.kind = 2 then n.link.isEmpty && n.data.isEmpty
     else if n.kind = 3 then !n.link.isEmpty && decide (n.link.length ≤ 255) && n.data.isEmpty && decide (n.mode = 511)
     else false)

def orderP (a b : Str) : Int := cmpL (names a) (names b)

def look (T : List Nd) (p : Str) : Option Nd := T.find? (fun n => decide (n.path = p))
def kindAt (T : List Nd) (p : Str) : Int := ((look T p).map (·.kind)).getD 0
def setN (T : List Nd) (n : Nd) : List Nd := if (look T n.path).isSome then T.map (fun x => if x.path = n.path then n else x) else T ++ [n]
def delN (T : List Nd) (p : Str) : List Nd := T.filter (fun n => !decide (n.path = p))
def delBelow (T : List Nd) (p : Str) : List Nd := T.filter (fun n => !isBelow p n.path)

/-- Does a path come behind the one ahead? -/
def prevOk : Option Str → Str → Bool
  | none, _ => true
  | some q, p => decide (orderP q p < 0)

/-- union.treeOf, from a node on: the nodes done, the one ahead. -/
def treeGo : List Nd → Option Str → List Nd → Option (List Nd)
  | [], _, T => some T
  | n :: r, prev, T =>
    if rightN n && prevOk prev n.path && (decide (parentP n.path = [47]) || decide (kindAt T (parentP n.path) = 2))
    then treeGo r (some n.path) (setN T n) else none

def treeOf (l : List Nd) : Option (List Nd) := if l.length ≤ 256 then treeGo l none [] else none

/-- tarfmt.Right at an entry with a plain name. -/
def plainT (s : Str) (most : Nat) : Bool := !s.isEmpty && decide (s.length ≤ most) && !s.contains 0
def tarOk (kind mode : Int) (link data : Str) : Bool :=
  decide (1 ≤ kind) && decide (kind ≤ 4) && decide (0 ≤ mode) && decide (mode ≤ 4095) &&
  (if kind = 3 ∨ kind = 4 then plainT link 100 else link.isEmpty) && (decide (kind = 1) || data.isEmpty) && decide (data.length ≤ 70656)

/-- May a hard link lead there? -/
def linkOk (c : Ch) : Bool := match splitP c.link with
  | none => false
  | some m => !m.isEmpty
def mayC (c : Ch) : Bool :=
  match splitP c.path with
  | none => false
  | some l =>
    if c.kind = 3 then true
    else if c.kind = 2 then !l.isEmpty
    else if c.kind = 1 then
      (if c.nkind = 4 then linkOk c else true) &&
      decide (c.name = c.path) && tarOk c.nkind c.mode (if c.nkind = 4 then [116, 111] else c.link) c.data && (!l.isEmpty || decide (c.nkind = 2))
    else false

theorem mayC_some {c : Ch} {l : List Str} (h : splitP c.path = some l) : mayC c = (if c.kind = 3 then true
    else if c.kind = 2 then !l.isEmpty
    else if c.kind = 1 then
      (if c.nkind = 4 then linkOk c else true) &&
      decide (c.name = c.path) && tarOk c.nkind c.mode (if c.nkind = 4 then [116, 111] else c.link) c.data && (!l.isEmpty || decide (c.nkind = 2))
    else false) := by simp only [mayC, h]

def dirN (p : Str) : Nd := ⟨p, 2, 493, [], []⟩

/-- The directories ahead: of the names done, those to come. -/
def dirs : List Nd → List Str → List Str → Option (List Nd)
  | T, _, [] => some T
  | T, l, x :: r =>
    match look T (joinP (l ++ [x])) with
    | none => dirs (setN T (dirN (joinP (l ++ [x])))) (l ++ [x]) r
    | some n => if n.kind = 2 then dirs T (l ++ [x]) r else none

/-- What a Put puts. -/
def nodeOf (T : List Nd) (c : Ch) : Option Nd :=
  if c.nkind = 4 then
    match look T c.link with
    | none => none
    | some to => if to.kind = 1 then some ⟨c.path, 1, to.mode, [], to.data⟩ else none
  else some ⟨c.path, c.nkind, if c.nkind = 3 then 511 else c.mode, c.link, c.data⟩

def place (T : List Nd) (n : Nd) : List Nd := setN (if n.kind = 2 ∧ kindAt T n.path = 2 then T else delBelow T n.path) n

def putC (T : List Nd) (c : Ch) : Option (List Nd) :=
  if names c.path = [] then some T
  else match dirs T [] (names c.path).dropLast with
    | none => none
    | some T1 => match nodeOf T1 c with
      | none => none
      | some n => some (place T1 n)

/-- The Whiteouts and Opaques. -/
def gone : List Nd → List Ch → List Nd
  | T, [] => T
  | T, c :: r => gone (if c.kind = 1 then T else if c.kind = 2 then delN (delBelow T c.path) c.path else delBelow T c.path) r

/-- The Puts; the number of the error. -/
def puts : List Nd → List Ch → Except Int (List Nd)
  | T, [] => .ok T
  | T, c :: r => if c.kind = 1 then
      match putC T c with
      | none => .error 13
      | some T' => if T'.length ≤ 256 then puts T' r else .error 6
    else puts T r

def leN (a b : Nd) : Bool := decide (orderP a.path b.path ≤ 0)
def srt (T : List Nd) : List Nd := T.mergeSort leN

def applyT (l : List Nd) (cs : List Ch) : Except Int (List Nd) :=
  match treeOf l with
  | none => .error 3
  | some T => if cs.all mayC then (match puts (gone T cs) cs with | .error e => .error e | .ok T' => .ok (srt T')) else .error 3

def foldT : List Nd → List (List Ch) → Except Int (List Nd)
  | T, [] => .ok T
  | T, l :: r => match applyT T l with
    | .error e => .error e
    | .ok T' => foldT T' r

end Go.Proofs.YtjolgckkoidhgaaGreatDoor.Pa
