/- (The library's contracts of this seat lie in one text: this one hands it on.) -/
import Derived.Test.YtkhgmmejgikgnaaGreatDoorShelf
namespace Go.Proofs.YtkhgmmejgikgnaaGreatDoor
end Go.Proofs.YtkhgmmejgikgnaaGreatDoor
