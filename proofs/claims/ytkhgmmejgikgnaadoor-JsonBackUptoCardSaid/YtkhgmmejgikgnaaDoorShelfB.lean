/- (The library's contracts of this seat lie in one text: this one hands it on.) -/
import Derived.Test.YtkhgmmejgikgnaaDoorShelf
namespace Go.Proofs.YtkhgmmejgikgnaaDoor
end Go.Proofs.YtkhgmmejgikgnaaDoor
